/- More operations: what builds, what cuts, what looks in, what reckons. -/
import Derived.Test.YtaaoeehlfihjdaaGreatU12
namespace Go.VE
set_option linter.unusedVariables false
set_option linter.unusedSimpArgs false
section
variable {P:Program}{X:Nat→Prop}{μ:List Slot}{s:St}{h:Heap}{I:Nat→Prop}{wr:List Nat}
theorem v52 (off:Nat):∀(vs:List Value) (n:Nat) (cs:Array Value),off+n+vs.length≤cs.size→
  ((vs.zipIdx n).foldl (fun(cs:Array Value) (x:Value×Nat)=>cs.setIfInBounds (off+x.2) x.1) cs).toList=cs.toList.take (off+n)++vs++cs.toList.drop (off+n+vs.length)
 |[],n,cs,_=>by simp
 |v::vs,n,cs,hl=>by
  simp only [List.length_cons]at hl
  simp only [List.zipIdx_cons,List.foldl_cons]
  rw [v52 off vs (n+1) _ (by simp;omega),Array.toList_setIfInBounds]
  apply List.ext_getElem?
  intro p
  rw [show off+(n+1)=off+n+1 by omega]
  have hlen:(cs.toList.set (off+n) v).length=cs.toList.length:=List.length_set
  have hl':off+n+(vs.length+1)≤cs.toList.length:=by simpa using hl
  rw [vet (by rw [hlen];omega),show cs.toList.take (off+n)++v::vs++cs.toList.drop (off+n+(v::vs).length)=cs.toList.take (off+n)++(v::vs)++cs.toList.drop (off+n+(v::vs).length)from rfl,vet (by simp only [List.length_cons];omega)]
  simp only [List.length_cons]
  by_cases h1:p<off+n
  ·rw [if_pos (by omega),if_pos h1,List.getElem?_set_ne (by omega)]
  ·rw [if_neg h1]
   by_cases h2:p=off+n
   ·subst h2
    rw [if_pos (by omega),if_pos (by omega),Nat.sub_self,List.getElem?_set_self (by omega)];rfl
   ·rw [if_neg (by omega)]
    by_cases h3:p<off+n+1+vs.length
    ·rw [if_pos h3,if_pos (by omega),show p-(off+n)=(p-(off+n+1))+1 by omega,List.getElem?_cons_succ]
    ·rw [if_neg h3,if_neg (by omega),List.getElem?_set_ne (by omega)]
theorem vyk {place place':Nat→Option (Nat×Nat)}(hp:∀i p,place i=some p→place' i=some p):∀(ps:List (Nat×AV)) (qs:List (Nat×Value)) (cs cs':List AV) (vs:Array Value),vx6 ps place cs=some cs'→
  (qs.map (·.1)=ps.map (·.1))→RVs h I μ s (ps.map (·.2)) (qs.map (·.2))→RVs h I μ s cs vs.toList→
  ∃vs',Instr.fill place' vs qs=some vs'∧RVs h I μ s cs' vs'.toList
 |[],[],cs,cs',vs,hf,_,_,hc=>by
  simp only [vx6,Option.some.injEq]at hf
  subst hf
  exact⟨vs,rfl,hc⟩
 |[],q::qs,cs,cs',vs,hf,hm,_,_=>by simp at hm
 |p::ps,[],cs,cs',vs,hf,hm,_,_=>by simp at hm
 |(i,x)::ps,(j,v)::qs,cs,cs',vs,hf,hm,hv,hc=>by
  simp only [List.map_cons,List.cons.injEq]at hm
  obtain⟨rfl,hm⟩:=hm
  simp only [List.map_cons,RVs]at hv
  obtain⟨u,r,e1,hu,hr⟩:=hv
  cases e1
  simp only [vx6]at hf
  split at hf
  ·rename_i off n vc hpl hvc
   split at hf
   ·rename_i hlen
    split at hf
    ·rename_i cs1 hsp
     obtain⟨g1,g2⟩:=cells?_rv hvc hu
     have hl1:=vci _ _ g1
     rw [Array.length_toList]at hl1
     obtain⟨k1,k2⟩:=vq6 hsp g1 hc
     rw [Array.length_toList,Array.length_toList]at k2
     have hset:=v52 off v.cells.toList 0 vs (by simpa using k2)
     simp only [Nat.add_zero]at hset
     have hfold:(v.cells.zipIdx.foldl (fun cs (c,j)=>cs.setIfInBounds (off+j) c) vs)=(v.cells.toList.zipIdx 0).foldl (fun(cs:Array Value) (x:Value×Nat)=>cs.setIfInBounds (off+x.2) x.1) vs:=by
      rw [←Array.foldl_toList,Array.toList_zipIdx]
     obtain⟨vs',f1,f2⟩:=vyk hp ps qs cs1 cs' _ hf hm hr (by rw [←hset]at k1;exact k1)
     refine⟨vs',?_,f2⟩
     simp only [Instr.fill,hp _ _ hpl]
     rw [if_neg (by simp;omega),hfold]
     exact f1
    ·cases hf
   ·cases hf
  ·cases hf
theorem vuq {e:Env}{a:Act}(he:RVs h I μ s e a.tmps.toList)(ps:List (Nat×Operand)) :
  RVs h I μ s ((ps.map fun p=>(p.1,ev e p.2)).map (·.2)) ((ps.map fun(i,x)=>(i,a.eval x)).map (·.2)):=by
 induction ps with
 |nil=>simp only [List.map_nil,RVs]
 |cons p ps ih=>simp only [List.map_cons,RVs];exact⟨_,_,rfl,vbi he _,ih⟩
theorem vka (T:Ty):∀n:Nat,RVs h I μ s (vel n T.zcells) (List.replicate n T.zv).flatten
 |0=>by simp only [vel,RVs,List.replicate_zero,List.flatten_nil]
 |n+1=>by
  simp only [vel,List.replicate_succ,List.flatten_cons]
  exact vex _ _ _ _ (vlp T) (vka T n)
theorem zrow (T:Ty)(n:Nat)(z:Array Value)(hz:z.toList=T.zv):((Array.range (n*T.size)).map (z[· % z.size]!)).toList=(List.replicate n T.zv).flatten:=by
 have hzs:z.size=T.size:=by rw [←Array.length_toList,hz,vda]
 have hpos:=T.size_pos
 apply List.ext_getElem?
 intro p
 have hfl:∀n p,(List.replicate n T.zv).flatten[p]? = if p<n*T.size then T.zv[p % T.size]? else none:=by
  intro n
  induction n with
  |zero=>intro p;simp
  |succ n ih=>
   intro p
   rw [List.replicate_succ,List.flatten_cons,List.getElem?_append,vda,ih]
   by_cases h1:p<T.size
   ·rw [if_pos h1,if_pos (by rw [Nat.add_mul];omega),Nat.mod_eq_of_lt h1]
   ·rw [if_neg h1]
    have h2:(p-T.size) % T.size=p % T.size:=by
     rw [Nat.mod_eq_sub_mod (by omega:p≥T.size)]
    rw [h2]
    by_cases h3:p-T.size<n*T.size
    ·rw [if_pos h3,if_pos (by rw [Nat.add_mul];omega)]
    ·rw [if_neg h3,if_neg (by rw [Nat.add_mul];omega)]
 rw [hfl]
 simp only [Array.toList_map,Array.toList_range,List.getElem?_map]
 by_cases hp:p<n*T.size
 ·rw [if_pos hp,List.getElem?_range hp]
  simp only [Option.map_some]
  have hm:p % z.size<z.size:=Nat.mod_lt _ (by omega)
  rw [←hz,hzs.symm]
  rw [Array.getElem?_toList,Array.getElem?_eq_getElem hm]
  congr 1
  exact getElem!_pos z (p % z.size) hm
 ·rw [if_neg hp]
  simp [List.getElem?_eq_none]
  omega
theorem v7t {I0:Nat→Prop}(inv:Inv X h μ s)(hI:∀b,Im X h μ s b→I0 b)(e:Ty):∀(n:Nat) (cs:List AV) (xs:List e.D) (vs:List Value),vo3 s e n cs=some xs→RVs h (Im X h μ s) μ s cs vs→
  (∀r sl b,r∈vc3 cs→μ[r]? = some sl→(getR s r).isArr=true→sl.has b→I0 b)→
  xs.length=n∧vs.length=n*e.size∧∀i (hi:i<xs.length),Rep h I0 e ((vs.drop (i*e.size)).take e.size) xs[i]
 |0,[],xs,vs,he,hv,_=>by
  simp only [vo3,Option.some.injEq]at he
  subst he
  simp only [RVs]at hv
  subst hv
  exact⟨rfl,by simp,fun i hi=>absurd hi (Nat.not_lt_zero _)⟩
 |0,_::_,xs,vs,he,hv,_=>by simp [vo3]at he
 |n+1,cs,xs,vs,he,hv,hb=>by
  simp only [vo3]at he
  split at he
  ·rename_i x r ht
   split at he
   ·rename_i ys hys
    simp only [Option.some.injEq]at he
    subst he
    obtain⟨⟨pre,hpre⟩,v1,v2,rfl,g1,g2⟩:=vup inv hI e cs x r vs ht hv hb
    obtain⟨l1,l2,l3⟩:=v7t inv hI e n r ys v2 hys g2 (fun q sl b hq=>hb q sl b (by rw [hpre,vhx];exact List.mem_append_right _ hq))
    have hl:=Rep.length _ _ _ g1
    refine⟨by simp [l1],by rw [List.length_append,hl,l2,Nat.add_mul];omega,?_⟩
    intro i hi
    have:=vfq (xs:=[x]) (ys:=ys) (cs:=v1) (ds:=v2) (by simpa using hl) (by
     intro i hi
     simp at hi;subst hi
     simpa [←hl]using g1) l3 i (by simpa using hi)
    simpa using this
   ·cases he
  ·cases he
theorem weg {α β:Type}(f:α→Sem β)(g:α→β)(w:World):∀l:List α,(∀x∈l,(f x).run P w = .ok (g x) w)→(l.mapM f).run P w = .ok (l.map g) w
 |[],_=>by simp
 |x::l,h=>by
  rw [List.mapM_cons]
  simp only [Sem.run_bind,h x (by simp),Result.andThen_ok,weg f g w l (fun y hy=>h y (by simp [hy])),Sem.run_pure,List.map_cons]
theorem ws8 {o:Oper}{e:Env}{t:TypeId}{parts:Array (Nat×Operand)}{T:Ty}{cs:List AV}{G:Glob}(hG:TysOk P G)(ho:o.op = .build t parts)(ht:G.ty t=some (true,T))
  (hf:vx6 (parts.toList.map fun p=>(p.1,ev e p.2)) (fun i=>match G.fld t i with|some (off,_,T)=>some (off,T.size)|none=>none) T.zcells=some cs):OpQ P o e s wr (.agg cs):=
 fun X h μ a inv he=>by
  have ht1:=hG.ty _ _ _ ht
  obtain⟨fs,hu,hb⟩:=hG.bld _ _ ht
  let sz:Field→Nat:=fun fd=>(P.info? fd.type).elim 0 (·.size)
  have hsz:∀i fd,fs[i]? = some fd→∃off ag T',G.fld t i=some (off,ag,T')∧fd.offset=off∧(∀w:World,(sizeOf fd.type).run P w = .ok T'.size w)∧sz fd=T'.size:=by
   intro i fd hfd
   obtain⟨off,ag,T',hfl⟩:=hb i fd hfd
   obtain⟨fs',fd',hu',hfd',ho',hti⟩:=hG.fld _ _ _ _ _ hfl
   rw [hu]at hu';cases hu'
   rw [hfd]at hfd';cases hfd'
   obtain⟨i0,g1,g2,_⟩:=hti.info
   exact⟨off,ag,T',hfl,ho',fun w=>vcc hti.info w,by simp [sz,g1,g2]⟩
  have hm:∀w:World,(fs.mapM fun(f:Field)=>(do pure (f.offset,←sizeOf f.type):Sem (Nat×Nat))).run P w = .ok (fs.toList.map fun f=>(f.offset,sz f)).toArray w:=by
   intro w
   rw [Array.mapM_eq_mapM_toList]
   have:=weg (P:=P) (fun(f:Field)=>(do pure (f.offset,←sizeOf f.type):Sem (Nat×Nat))) (fun f=>(f.offset,sz f)) w fs.toList (by
    intro fd hfd
    obtain⟨i,hi,rfl⟩:=List.getElem_of_mem hfd
    obtain⟨off,ag,T',_,_,h3,h4⟩:=hsz i fs.toList[i] (by simp at hi;simp [hi])
    simp only [Sem.run_bind,h3,Result.andThen_ok,Sem.run_pure,h4])
   simp only [Sem.run_map,this,Result.andThen_ok]
  obtain⟨vs',f1,f2⟩:=vyk (place':=fun i=>(fs.toList.map fun f=>(f.offset,sz f)).toArray[i]?) (by
    intro i p hp
    split at hp
    ·rename_i off ag T' hfl
     cases hp
     obtain⟨fs',fd,hu',hfd,ho',hti⟩:=hG.fld _ _ _ _ _ hfl
     rw [hu]at hu';cases hu'
     obtain⟨off2,ag2,T2,h1,h2,h3,h4⟩:=hsz i fd hfd
     rw [hfl]at h1;cases h1
     simp [hfd,h2,h4]
    ·cases hp)
   (parts.toList.map fun p=>(p.1,ev e p.2)) (parts.toList.map fun(i,x)=>(i,a.eval x)) _ cs (zval true T).cells hf (by simp) (vuq he parts.toList) (by rw [vdw ht1];exact vlp T)
  have hfill:Instr.fill ((fs.toList.map fun f=>(f.offset,sz f)).toArray[·]?) (zval true T).cells (parts.map fun(i,x)=>(i,a.eval x)).toList=some vs':=by rw [Array.toList_map];exact f1
  refine⟨.agg vs',fun w _=>?_,by simp only [RV];exact⟨vs',rfl,f2⟩⟩
  simp only [execOp,ho,Instr.build,Sem.run_bind,vcp ht1.info,Result.andThen_ok,run_underlying hu,hm,hfill,Sem.run_pure]
theorem vrc {o:Oper}{e:Env}{t:TypeId}{n:Nat}{parts:Array (Nat×Operand)}{el:Ty}{cs:List AV}{xs:List el.D}(ho:o.op = .buildSlice t n parts)(ht:TyOk1 P (.slice el) t false)
  (hf:vx6 (parts.toList.map fun p=>(p.1,ev e p.2)) (fun i=>some (i*el.size,el.size)) (vel n el.zcells)=some cs) (hx:vo3 s el n cs=some xs) (hn:n*el.size≤16777216) :
  OpOk P o e s [] (.own s.length) (vei s (vc3 cs)++[.arr el xs]):=
 OpOk.push fun X μ w a inv he=>by
  obtain⟨te,ag',hu,hte⟩:=vd4 ht rfl
  obtain⟨vs',f1,f2⟩:=vyk (fun _ _ hp=>hp) (parts.toList.map fun p=>(p.1,ev e p.2)) (parts.toList.map fun(i,x)=>(i,a.eval x)) _ cs
   (if n*el.size=0 then #[]else(Array.range (n*el.size)).map ((zval ag' el).cells[· % (zval ag' el).cells.size]!)) hf (by simp) (vuq he parts.toList) (by
    split
    ·rename_i h0
     have hp:=el.size_pos
     have:n=0:=by
      rcases Nat.mul_eq_zero.1 h0 with h1|h1
      ·exact h1
      ·omega
     subst this
     simp only [vel,RVs]
    ·rw [zrow el n _ (vdw (.inl hte))]
     exact vka el n)
  obtain⟨i1,e1⟩:=vp6 (vc3 cs) inv
  obtain⟨l1,l2,l3⟩:=v7t inv (fun b hb=>(e1.im b hb).1) el n cs xs vs'.toList hx f2 (fun r sl b hr hsl harr hb=>v6e inv hr hsl harr hb)
  obtain⟨i2,e2,v2⟩:=v2s i1 e1 el xs vs' te (0,0) n (vde _) (by rw [←Array.length_toList];exact l2) (by omega) l3
  rw [vlv]at v2
  refine⟨.slice (some ⟨w.heap.size,0,none⟩) n n,{ w with heap:=w.heap.push (.cells vs' te (0,0)) },_,_,?_,rfl,⟨rfl,rfl,rfl⟩,i2,?_,e2,vdf inv⟩
  ·have hbig:¬(n*el.size>2^24):=by
    have:(2:Nat)^24=16777216:=by decide
    omega
   by_cases h0:n*el.size=0
   ·rw [if_pos h0]at f1
    have hfill:Instr.fill (fun i=>some (i*el.size,el.size)) ((Array.range (n*el.size)).map fun x=>(#[]:Array Value)[x % (#[]:Array Value).size]!) (parts.map fun(i,x)=>(i,a.eval x)).toList=some vs':=by
     have e0:((Array.range (n*el.size)).map fun x=>(#[]:Array Value)[x % (#[]:Array Value).size]!) = #[]:=by rw [h0];simp
     rw [Array.toList_map,e0];exact f1
    simp only [execOp,ho,Instr.buildSlice,Sem.run_bind,run_underlying hu,Result.andThen_ok,vcc hte.info,if_neg hbig,if_pos h0,Sem.run_pure,hfill,newRow,run_newObj]
   ·rw [if_neg h0]at f1
    have hfill:Instr.fill (fun i=>some (i*el.size,el.size)) ((Array.range (n*el.size)).map fun x=>(zval ag' el).cells[x % (zval ag' el).cells.size]!) (parts.map fun(i,x)=>(i,a.eval x)).toList=some vs':=by
     rw [Array.toList_map];exact f1
    simp only [execOp,ho,Instr.buildSlice,Sem.run_bind,run_underlying hu,Result.andThen_ok,vcc hte.info,if_neg hbig,if_neg h0,Sem.run_pure,vcp hte.info,hfill,newRow,run_newObj]
  ·have:=v2 (Im X (w.heap.push (.cells vs' te (0,0))) (μ++[{ blk:=some w.heap.size,cap:=n }]) (vei s (vc3 cs)++[.arr el xs]))
   rw [l1]at this
   exact this
theorem v6f (inv:Inv X h μ s)(e:Ty)(hdi:e.deepIn=true):∀(n p:Nat) (cs:List AV) (xs:List e.D) (vs:List Value) (ids:List Nat) (ch:Bool),vo3 s e n cs=some xs→RVs h (Im X h μ s) μ s cs vs→
  van s s.length 0 0 p cs=some (ids,ch)→ids.Nodup→
  xs.length=n∧vs.length=n*e.size∧∃B:Nat→List Nat,(∀i,i<n→(B i).Nodup∧∀b∈B i,∃q∈ids,∃sq,μ[q]? = some sq∧sq.blk=some b)∧
   (∀i j b,i<n→j<n→i≠j→b∈B i→b∉B j)∧∀i (hi:i<xs.length),DepEl h e ((vs.drop (i*e.size)).take e.size) xs[i] (B i)
 |0,p,[],xs,vs,ids,ch,he,hv,_,_=>by
  simp only [vo3,Option.some.injEq]at he
  subst he
  simp only [RVs]at hv
  subst hv
  exact⟨rfl,by simp,fun _=>[],fun i hi=>absurd hi (Nat.not_lt_zero _),fun i j b hi=>absurd hi (Nat.not_lt_zero _),fun i hi=>absurd hi (Nat.not_lt_zero _)⟩
 |0,p,_::_,xs,vs,ids,ch,he,hv,_,_=>by simp [vo3]at he
 |n+1,p,cs,xs,vs,ids,ch,he,hv,hids,hn=>by
  simp only [vo3]at he
  split at he
  ·rename_i x r ht
   split at he
   ·rename_i ys hys
    simp only [Option.some.injEq]at he
    subst he
    obtain⟨v1,v2,bs,ids1,ids2,ch2,rfl,d1,d2,d3,rfl,d5,d6,d7⟩:=vq4 inv (r:=s.length) (m:=0) (i:=0) (fun _=>[]) (by simp) (by simp) (by simp)
     (fun _=>0) (fun p v e1 ys hv hs=>by
      simp only [RV]at hv
      obtain⟨sl,h1,_⟩:=hv
      have:=inv.lt h1
      omega) e p cs x r vs ids ch hdi ht hv hids hn (fun q r' m' i' o _ hq=>absurd hq (vps cs p _ (vqf inv cs vs hv) hids q r' m' i' o))
    obtain⟨n1,n2,n3⟩:=List.nodup_append.1 hn
    obtain⟨l1,l2,B,b1,b2,b3⟩:=v6f inv e hdi n (p+e.size) r ys v2 ids2 ch2 hys d2 d3 n2
    have hl:=DepEl.length _ _ _ _ d1
    have hall:=(vcs _ _ _ _ hids).2
    refine⟨by simp [l1],by rw [List.length_append,hl,l2,Nat.add_mul];omega,fun i=>match i with|0=>bs|i+1=>B i,?_,?_,?_⟩
    ·intro i hi
     cases i with
     |zero=>
      refine⟨d5,fun b hb=>?_⟩
      rcases d6 b hb with⟨_,_,_,m⟩|⟨q,m1,m2⟩
      ·simp at m
      ·exact⟨q,List.mem_append_left _ m1,m2⟩
     |succ i=>
      obtain⟨g1,g2⟩:=b1 i (by omega)
      refine⟨g1,fun b hb=>?_⟩
      obtain⟨q,m1,m2⟩:=g2 b hb
      exact⟨q,List.mem_append_right _ m1,m2⟩
    ·have key:∀j b,j<n→b∈bs→b∉B j:=by
      intro j b hj hb hb'
      obtain⟨q',m1',sq',m2',m3'⟩:=(b1 j hj).2 b hb'
      rcases d6 b hb with⟨_,_,_,m⟩|⟨q,m1,sq,m2,m3⟩
      ·simp at m
      ·obtain⟨e1,xs1,ge,_⟩:=hall q (List.mem_append_left _ m1)
       obtain⟨e2,xs2,ge',_⟩:=hall q' (List.mem_append_right _ m1')
       exact inv.dis q q' sq sq' b (fun e0=>n3 q m1 q' m1' e0) m2 m2' (by rw [ge];rfl) (by rw [ge'];rfl) (.inl m3) (.inl m3')
     intro i j b hi hj hij hb hb'
     cases i with
     |zero=>
      cases j with
      |zero=>exact absurd rfl hij
      |succ j=>exact key j b (by omega) hb hb'
     |succ i=>
      cases j with
      |zero=>exact key i b (by omega) hb' hb
      |succ j=>exact b2 i j b (by omega) (by omega) (by omega) hb hb'
    ·intro i hi
     cases i with
     |zero=>
      simp only [Nat.zero_mul,List.drop_zero,List.getElem_cons_zero]
      rw [List.take_append_of_le_length (by omega),List.take_of_length_le (by omega)]
      exact d1
     |succ i=>
      have hi':i<ys.length:=by simpa using hi
      simp only [List.getElem_cons_succ]
      have e1:(v1++v2).drop ((i+1)*e.size)=v2.drop (i*e.size):=by
       rw [Nat.add_mul,Nat.one_mul,Nat.add_comm,←List.drop_drop,←hl,List.drop_left]
      rw [e1]
      exact b3 i hi'
   ·cases he
  ·cases he
theorem vzo {o:Oper}{e:Env}{t:TypeId}{n:Nat}{parts:Array (Nat×Operand)}{el:Ty}{cs:List AV}{xs:List el.D}{ids:List Nat}{ch:Bool}(ho:o.op = .buildSlice t n parts)(ht:TyOk1 P (.slice el) t false)(hde:el.deepIn=true)
  (hf:vx6 (parts.toList.map fun p=>(p.1,ev e p.2)) (fun i=>some (i*el.size,el.size)) (vel n el.zcells)=some cs) (hx:vo3 s el n cs=some xs) (hn:n*el.size≤16777216) (hids:van s s.length 0 0 0 cs=some (ids,ch)) :
  OpOk P o e s [] (.own s.length) (vbd s ids++[.dep el xs 0 []]):=
 OpOk.push fun X μ w a inv he=>by
  obtain⟨te,ag',hu,hte⟩:=vd4 ht rfl
  obtain⟨vs',f1,f2⟩:=vyk (fun _ _ hp=>hp) (parts.toList.map fun p=>(p.1,ev e p.2)) (parts.toList.map fun(i,x)=>(i,a.eval x)) _ cs
   (if n*el.size=0 then #[]else(Array.range (n*el.size)).map ((zval ag' el).cells[· % (zval ag' el).cells.size]!)) hf (by simp) (vuq he parts.toList) (by
    split
    ·rename_i h0
     have hp:=el.size_pos
     have:n=0:=by
      rcases Nat.mul_eq_zero.1 h0 with h1|h1
      ·exact h1
      ·omega
     subst this
     simp only [vel,RVs]
    ·rw [zrow el n _ (vdw (.inl hte))]
     exact vka el n)
  obtain⟨hidn,hida⟩:=vcs _ _ _ _ hids
  have hJ:∀q∈ids,(getR s q).isArr=true:=fun q hq=>by
   obtain⟨_,_,h0,_⟩:=hida q hq
   rw [h0];rfl
  obtain⟨l1,l2,B,b1,b2,b3⟩:=v6f inv el hde n 0 cs xs vs'.toList ids ch hx f2 hids hidn
  have hpush:∀(h:Heap) (ob:Obj) (b:Nat),b<h.size→(h.push ob)[b]? = h[b]?:=fun h ob b hb=>by rw [Array.getElem?_push];simp [Nat.ne_of_lt hb]
  have hp:=vor inv ids hJ (k:=w.heap.size) (cap:=n) (more:=fun b=>∃q∈ids,∃sq,μ[q]? = some sq∧sq.blk=some b) (e:=el) (zs:=xs) (C:=vs') (el:=te) (fr:=(0,0)) (h':=w.heap.push (.cells vs' te (0,0))) (B:=B)
   (by simp) (.inl rfl) (by simp) (vde _) (fun b hb _=>hpush _ _ b hb) (by rw [←Array.length_toList];exact l2) (by omega)
   (fun b hb=>by
    obtain⟨q,m1,sq,m2,m3⟩:=hb
    have:=inv.blk_lt m2 (Rg.isArr_live (hJ q m1)) (.inl m3)
    exact⟨by omega,q,m1,sq,m2,.inl m3⟩) (fun i hi=>b1 i (by omega)) (fun i j b hi hj=>b2 i j b (by omega) (by omega)) b3
  refine⟨.slice (some ⟨w.heap.size,0,none⟩) n n,{ w with heap:=w.heap.push (.cells vs' te (0,0)) },_,_,?_,rfl,⟨rfl,rfl,rfl⟩,hp.1,?_,hp.2,vdf inv⟩
  ·have hbig:¬(n*el.size>2^24):=by
    have:(2:Nat)^24=16777216:=by decide
    omega
   by_cases h0:n*el.size=0
   ·rw [if_pos h0]at f1
    have hfill:Instr.fill (fun i=>some (i*el.size,el.size)) ((Array.range (n*el.size)).map fun x=>(#[]:Array Value)[x % (#[]:Array Value).size]!) (parts.map fun(i,x)=>(i,a.eval x)).toList=some vs':=by
     have e0:((Array.range (n*el.size)).map fun x=>(#[]:Array Value)[x % (#[]:Array Value).size]!) = #[]:=by rw [h0];simp
     rw [Array.toList_map,e0];exact f1
    simp only [execOp,ho,Instr.buildSlice,Sem.run_bind,run_underlying hu,Result.andThen_ok,vcc hte.info,if_neg hbig,if_pos h0,Sem.run_pure,hfill,newRow,run_newObj]
   ·rw [if_neg h0]at f1
    have hfill:Instr.fill (fun i=>some (i*el.size,el.size)) ((Array.range (n*el.size)).map fun x=>(zval ag' el).cells[x % (zval ag' el).cells.size]!) (parts.map fun(i,x)=>(i,a.eval x)).toList=some vs':=by
     rw [Array.toList_map];exact f1
    simp only [execOp,ho,Instr.buildSlice,Sem.run_bind,run_underlying hu,Result.andThen_ok,vcc hte.info,if_neg hbig,if_neg h0,Sem.run_pure,vcp hte.info,hfill,newRow,run_newObj]
  ·simp only [RV]
   refine⟨_,vdv inv _,?_⟩
   have:getR (vbd s ids++[.dep el xs 0 []]) s.length = .dep el xs 0 []:=by rw [←vbm ids s];exact vjh _ _
   rw [this]
   exact⟨_,by rw [l1],.inr ⟨_,rfl,rfl⟩⟩
theorem vif {h:Heap}{μ:List Slot}{s:St}{r j m:Nat}{I':Nat→Prop}{e:Ty}{xs:List e.D}{dd:List Nat}{sl:Slot}(hr:μ[r]? = some sl)(hg:getR s r = .dep e xs m dd)(hk:sl.blk=none) :
  ∀(cs:List AV) (p:Nat) (vs:List Value) (ids:List Nat) (ch:Bool),vq5 cs=some (r,j)→van s r m j p cs=some (ids,ch)→RVs h I' μ s cs vs→False
 |[],p,vs,ids,ch,hs,_,_=>by simp [vq5]at hs
 |a::cs,p,vs,ids,ch,hs,hd,hv=>by
  simp only [RVs]at hv
  obtain⟨v,rr,rfl,h3,h4⟩:=hv
  cases a with
  |dw r' m' i' off'=>
   simp only [van]at hd
   cases hb:(Nat.beq r' r&&Nat.beq m' m&&Nat.beq off' p)with
   |false=>rw [hb]at hd;cases hd
   |true=>
    simp only [Bool.and_eq_true]at hb
    obtain⟨⟨b1,b2⟩,_⟩:=hb
    have b1:=Nat.eq_of_beq_eq_true b1
    have b2:=Nat.eq_of_beq_eq_true b2
    subst b1 b2
    simp only [RV]at h3
    obtain⟨sl',z1,z2⟩:=h3
    rw [hr]at z1;cases z1
    rw [hg]at z2
    obtain⟨_,_,k,_,_,_,z3,_⟩:=z2.2.2 rfl
    rw [hk]at z3;cases z3
  |int _ _=>simp only [van]at hd;exact vif hr hg hk cs _ rr ids ch hs hd h4
  |bool _=>simp only [van]at hd;exact vif hr hg hk cs _ rr ids ch hs hd h4
  |str _=>simp only [van]at hd;exact vif hr hg hk cs _ rr ids ch hs hd h4
  |nilS=>
   simp only [van]at hd
   split at hd
   ·rename_i ids' ch' hd'
    exact vif hr hg hk cs _ rr ids' ch' hs hd' h4
   ·cases hd
  |own q=>
   simp only [van]at hd
   split at hd
   ·rename_i e' xs' hq
    cases hf:e'.flat with
    |false=>rw [hf]at hd;cases hd
    |true=>
     rw [hf]at hd
     simp only [cond_true]at hd
     split at hd
     ·rename_i ids' ch' hd'
      exact vif hr hg hk cs _ rr ids' ch' hs hd' h4
     ·cases hd
   ·cases hd
  |_=>simp [van]at hd
theorem wqh {X:Nat→Prop}{h:Heap}{μ:List Slot}{s:St}(inv:Inv X h μ s){r0 j m:Nat}{e0 el:Ty}{ys:List e0.D}{dd:List Nat}{cs:List AV}{x:el.D}{vs:Array Value}{ids:List Nat}{ch:Bool}{te:TypeId}
  (hg:getR s r0 = .dep e0 ys m dd) (hse:vq5 cs=some (r0,j)) (hdi:el.deepIn=true) (ht:el.take s cs=some (x,[])) (hv:RVs h (Im X h μ s) μ s cs vs.toList) (hids:van s r0 m j 0 cs=some (ids,ch)) :
  ∃μ',Inv X (h.push (.cells vs te (0,0))) μ' (setR (vbd s ids) r0 (.dep e0 ys (m+1) (dwOf cs++dd))++[.dep el [x] 0 []])∧
   Ext X h μ s (h.push (.cells vs te (0,0))) μ' (setR (vbd s ids) r0 (.dep e0 ys (m+1) (dwOf cs++dd))++[.dep el [x] 0 []])∧
   (∀q,q<s.length→Shr μ μ' q)∧(∀q,q<s.length→q≠r0→μ'[q]? = μ[q]?)∧∃sl,μ'[s.length]? = some sl∧sl.cap=1∧sl.blk=some h.size:=by
 have hlive:(getR s r0).live=true:=by rw [hg];rfl
 have hlt:r0<s.length:=vp4 hlive
 obtain⟨sl,h1⟩:=inv.slot hlt
 have hreg:=inv.reg r0 sl h1
 rw [hg]at hreg
 rcases hreg with⟨h0,_⟩|⟨k,c,elt,fr,g1,g2,g3,g4,g5,B,g6,g7,g8,g9⟩
 ·exfalso
  exact vif h1 hg h0 cs 0 _ ids ch hse hids hv
 have hJ:=vnr (I':=Im X h μ s) h1 hg g1 g2 cs 0 _ ids ch hids hv
 have hjm:=vx9 cs _ _ hse
 let ip:Nat→Nat:=fun q=>match getE cs q with | .dw _ _ i' _=>i'|_=>j
 have hip:∀q r' m' i' o,getE cs q = .dw r' m' i' o→i'=ip q:=fun q r' m' i' o hq=>by simp only [ip,hq]
 have hipJ:∀q,ip q∈dwOf cs:=fun q=>by
  cases hq:getE cs q with
  |dw a b c d=>rw [←hip q a b c d hq];exact v46 cs q a b c d hq
  |_=>simp only [ip,hq];exact hjm
 have hSS:∀t,∃S:Nat→List Nat,t∈dwOf cs→(∀p,(S p).Nodup)∧(∀p p' b,p≠p'→b∈S p→b∉S p')∧(∀p b,b∈S p→b∈B t)∧
   ∀p e1 (ys':List e1.D) v,getE (e0.cells (ys.getD t e0.zero)) p = .lst e1 ys'→((c.toList.drop (t*e0.size)).take e0.size)[p]? = some v→e1.flat=true∧∃sl,OwnV sl ys'.length v∧ArrOk h (fun _=>False) sl e1 ys'∧∀b,sl.blk=some b→b∈S p:=by
  intro t
  by_cases ht:t∈dwOf cs
  ·obtain⟨ht1,ht2⟩:=hJ t ht
   obtain⟨S,s1,s2,s3,s4,s5⟩:=DepEl.at _ _ _ _ (g9 t ht1 ht2) (g7 t ht1).1
   refine⟨S,fun _=>⟨s1,s2,s3,?_⟩⟩
   rw [vgr _ ht1]
   exact s5
  ·exact⟨fun _=>[],fun h9=>absurd h9 ht⟩
 obtain⟨SS,hSS⟩:=Classical.axiomOfChoice hSS
 have hSB:∀p b,b∈SS (ip p) p→b∈B (ip p):=fun p b hb=>(hSS (ip p) (hipJ p)).2.2.1 p b hb
 have hSm:∀p b,b∈SS (ip p) p→sl.more b:=fun p b hb=>(g7 (ip p) (hJ _ (hipJ p)).1).2 b (hSB p b hb)
 obtain⟨hidn,hida⟩:=vcs _ _ _ _ hids
 obtain⟨v1,v2,bs,ids1,ids2,ch2,hvs,d1,d2,d3,d4,d5,d6,d7⟩:=vq4 inv (r:=r0) (m:=m) (i:=j) (fun p=>SS (ip p) p) (fun p=>(hSS (ip p) (hipJ p)).1 p)
  (fun p p' b hne hb hb'=>by
   by_cases e0:ip p=ip p'
   ·have hb2:b∈SS (ip p) p':=by rw [e0];exact hb'
    exact(hSS (ip p) (hipJ p)).2.1 p p' b hne hb hb2
   ·exact g8 (ip p) (ip p') b (hJ _ (hipJ p)).1 (hJ _ (hipJ p')).1 e0 (hSB p b hb) (hSB p' b hb'))
  (fun p b q sq e' xs' hb hq hsq hbq=>inv.dis r0 q sl sq b (by intro e0;subst e0;rw [hg]at hq;cases hq) h1 hsq hlive (by rw [hq];rfl) (.inr (hSm p b hb)) (.inl hbq))
  ip
  (fun p v e1 ys' hv hs=>by
   obtain⟨z1,z2,z3,_⟩:=vrs h1 hg g1 g2 hv
   refine(hSS (ip p) (hipJ p)).2.2.2 p e1 ys' v (by rw [vgr _ z1];exact v0a hg z1 hs) ?_
   rw [List.getElem?_take,if_pos (voc z2),List.getElem?_drop,Array.getElem?_toList];exact z3)
  el 0 cs x [] _ ids ch hdi ht hv hids hidn (fun q r' m' i' o _ hq=>by rw [Nat.zero_add];exact hip q r' m' i' o hq)
 simp only [RVs]at d2
 subst d2
 simp only [van,Option.some.injEq,Prod.mk.injEq]at d3
 obtain⟨rfl,rfl⟩:=d3
 simp only [List.append_nil]at d4 hvs
 subst d4
 have hrn:r0∉ids:=by
  intro hm
  obtain⟨_,_,h0,_⟩:=hida r0 hm
  rw [hg]at h0;cases h0
 have hidlive:∀q∈ids,(getR s q).live=true:=by
  intro q hq
  obtain⟨_,_,h0,_⟩:=hida q hq
  rw [h0];rfl
 have hidlt:∀q∈ids,q<s.length:=fun q hq=>vp4 (hidlive q hq)
 have hlen:(setR (vbd s ids) r0 (.dep e0 ys (m+1) (dwOf cs++dd))).length=s.length:=by rw [vap,vbm]
 have hget:∀q,q<s.length→getR (setR (vbd s ids) r0 (.dep e0 ys (m+1) (dwOf cs++dd))++[.dep el [x] 0 []]) q=if q=r0 then .dep e0 ys (m+1) (dwOf cs++dd)else if q∈ids then .gone else getR s q:=by
  intro q hq
  rw [vbf _ _ _ (by rw [hlen];exact hq),vbg _ r0 q _ (by rw [vbm];exact hlt),vmm ids s q hidlt]
 have hgn:getR (setR (vbd s ids) r0 (.dep e0 ys (m+1) (dwOf cs++dd))++[.dep el [x] 0 []]) s.length = .dep el [x] 0 []:=by rw [←hlen];exact vjh _ _
 have hself:getR (setR (vbd s ids) r0 (.dep e0 ys (m+1) (dwOf cs++dd))++[.dep el [x] 0 []]) r0 = .dep e0 ys (m+1) (dwOf cs++dd):=by rw [hget r0 hlt,if_pos rfl]
 let sl2:Slot:=⟨sl.blk,sl.cap,fun b=>sl.more b∧b∉bs⟩
 let sl3:Slot:=⟨some h.size,1,fun b=>b∈bs⟩
 have hlm:r0<μ.length:=by rw [inv.len];exact hlt
 have hset:∀q y,(μ.set r0 sl2++[sl3])[q]? = some y→(q=r0∧y=sl2)∨(q≠r0∧q<s.length∧μ[q]? = some y)∨(q=s.length∧y=sl3):=by
  intro q y hq
  rcases Nat.lt_or_ge q s.length with h2|h2
  ·rw [List.getElem?_append_left (by rw [List.length_set,inv.len];exact h2)]at hq
   by_cases e1:q=r0
   ·subst e1
    rw [List.getElem?_set_self hlm]at hq
    cases hq;exact .inl ⟨rfl,rfl⟩
   ·rw [List.getElem?_set_ne (fun h=>e1 h.symm)]at hq
    exact .inr (.inl ⟨e1,h2,hq⟩)
  ·rw [List.getElem?_append_right (by rw [List.length_set,inv.len];exact h2),List.length_set,inv.len]at hq
   cases hz:q-s.length with
   |zero=>
    rw [hz]at hq
    simp at hq
    exact .inr (.inr ⟨by omega,hq.symm⟩)
   |succ z=>rw [hz]at hq;simp at hq
 have hsr:(μ.set r0 sl2++[sl3])[r0]? = some sl2:=by rw [List.getElem?_append_left (by rw [List.length_set];exact hlm)];exact List.getElem?_set_self hlm
 have hsn:(μ.set r0 sl2++[sl3])[s.length]? = some sl3:=by
  have e1:s.length=(μ.set r0 sl2).length:=by rw [List.length_set,inv.len]
  rw [e1];simp
 have hne:∀q,q<s.length→q≠r0→(μ.set r0 sl2++[sl3])[q]? = μ[q]?:=fun q hq e1=>by
  rw [List.getElem?_append_left (by rw [List.length_set,inv.len];exact hq),List.getElem?_set_ne (fun h=>e1 h.symm)]
 have hbs:∀b∈bs,(∃t∈dwOf cs,b∈B t)∨∃q∈ids,∃sq,μ[q]? = some sq∧sq.blk=some b:=by
  intro b hb
  rcases d6 b hb with⟨p',_,_,m3⟩|m
  ·exact .inl ⟨_,hipJ p',hSB p' b m3⟩
  ·exact .inr m
 have hbJ:∀b∈bs,OfJ μ s (r0::ids) b:=by
  intro b hb
  rcases hbs b hb with⟨t,t1,h2⟩|⟨q,m1,sq,m2,m3⟩
  ·exact⟨r0,by simp,sl,h1,hlive,.inr ((g7 t (hJ t t1).1).2 b h2)⟩
  ·exact⟨q,by simp [m1],sq,m2,hidlive q m1,.inl m3⟩
 have hblt:∀b∈bs,b<h.size:=by
  intro b hb
  obtain⟨q,_,sq,m2,m3,m4⟩:=hbJ b hb
  exact inv.blk_lt m2 m3 m4
 have hbk:∀b∈bs,b≠k:=by
  intro b hb e1
  subst e1
  rcases hbs b hb with⟨t,t1,h2⟩|⟨q,m1,sq,m2,m3⟩
  ·exact(g6 b ((g7 t (hJ t t1).1).2 b h2)).2 rfl
  ·exact inv.dis r0 q sl sq b (fun e1=>hrn (e1▸m1)) h1 m2 hlive (hidlive q m1) (.inl g1) (.inl m3)
 have hBt:∀t,t<ys.length→t∉dwOf cs→∀b∈B t,b∉bs:=by
  intro t ht hne b hb hb2
  rcases hbs b hb2 with⟨t',t1,h2⟩|⟨q,m1,sq,m2,m3⟩
  ·exact g8 t t' b ht (hJ t' t1).1 (fun h9=>hne (h9▸t1)) hb h2
  ·exact inv.dis r0 q sl sq b (fun e1=>hrn (e1▸m1)) h1 m2 hlive (hidlive q m1) (.inr ((g7 t ht).2 b hb)) (.inl m3)
 have hpush:∀b,b<h.size→(h.push (.cells vs te (0,0)))[b]? = h[b]?:=fun b hb=>by rw [Array.getElem?_push];simp [Nat.ne_of_lt hb]
 have hklt:k<h.size:=inv.blk_lt h1 hlive (.inl g1)
 have hsz:h.size≤(h.push (.cells vs te (0,0))).size:=by simp
 have hd2:DepOk (h.push (.cells vs te (0,0))) sl2 e0 ys (dwOf cs++dd):=by
  refine .inr ⟨k,c,elt,fr,g1,(hpush k hklt).trans g2,g3,g4,g5,fun t=>if t∈dwOf cs then []else B t,fun b hb=>⟨Nat.lt_of_lt_of_le (g6 b hb.1).1 hsz,(g6 b hb.1).2⟩,?_,?_,?_⟩
  ·intro t ht
   show (if t∈dwOf cs then []else B t).Nodup∧∀b∈(if t∈dwOf cs then []else B t),sl2.more b
   split
   ·exact⟨by simp,fun b hb=>by simp at hb⟩
   ·rename_i hne
    exact⟨(g7 t ht).1,fun b hb=>⟨(g7 t ht).2 b hb,hBt t ht hne b hb⟩⟩
  ·intro t t' b ht ht' hne hb hb'
   simp only at hb hb'
   split at hb
   ·simp at hb
   ·split at hb'
    ·simp at hb'
    ·exact g8 t t' b ht ht' hne hb hb'
  ·intro t ht htd
   obtain⟨hne,htd2⟩:=v41 htd
   show DepEl _ e0 _ ys[t] (if t∈dwOf cs then []else B t)
   rw [if_neg hne]
   exact DepEl.mono _ _ _ _ (fun b hb=>hpush b (g6 b ((g7 t ht).2 b hb)).1) (g9 t ht htd2)
 have hvl:=DepEl.length _ _ _ _ d1
 have hd3:DepOk (h.push (.cells vs te (0,0))) sl3 el [x] []:=by
  refine .inr ⟨h.size,vs,te,(0,0),rfl,by simp,vde _,?_,by simp [sl3],fun _=>bs,fun b hb=>⟨Nat.lt_of_lt_of_le (hblt b hb) hsz,Nat.ne_of_lt (hblt b hb)⟩,?_,?_,?_⟩
  ·show vs.size=1*el.size
   rw [←Array.length_toList,hvs,hvl,Nat.one_mul]
  ·intro i hi
   exact⟨d5,fun b hb=>hb⟩
  ·intro i i' b hi hi' hne
   simp at hi hi';omega
  ·intro i hi _
   have h0:i=0:=by simpa using hi
   subst h0
   have:(vs.toList.drop (0*el.size)).take el.size=v1:=by rw [Nat.zero_mul,List.drop_zero,hvs,←hvl,List.take_length]
   rw [this]
   exact DepEl.mono _ _ _ _ (fun b hb=>hpush b (hblt b hb)) d1
 refine⟨μ.set r0 sl2++[sl3],?_⟩
 rw [←and_assoc]
 refine⟨?_,fun q hq=>?_,hne,sl3,hsn,rfl,rfl⟩
 ·refine vgo inv (r0::ids) hsz (by simp [vap,vbm,inv.len]) (by simp [vap,vbm]) ?_ ?_ ?_ ?_ ?_ ?_
  ·intro q hq hn
   simp only [List.mem_cons,not_or]at hn
   refine⟨hne q hq hn.1,?_⟩
   rw [hget q hq,if_neg hn.1,if_neg hn.2]
  ·intro b hb _
   exact hpush b hb
  ·intro q y b hq hy hl hb
   rcases hset q y hy with⟨rfl,rfl⟩|⟨e1,e2,e3⟩|⟨rfl,rfl⟩
   ·right
    rcases hb with hb|hb
    ·exact⟨q,by simp,sl,h1,hlive,.inl hb⟩
    ·exact⟨q,by simp,sl,h1,hlive,.inr hb.1⟩
   ·rw [hget q e2,if_neg e1]at hl
    rcases hq with hq|hq
    ·simp only [List.mem_cons]at hq
     rw [if_pos (hq.resolve_left e1)]at hl;cases hl
    ·omega
   ·rcases hb with hb|hb
    ·cases hb;exact .inl (Nat.le_refl _)
    ·exact .inr (hbJ b hb)
  ·intro q q' y y' b hnq hq hq' hy hy' hl hl' hb hb'
   have key:∀q y,(q∈r0::ids∨s.length≤q)→(μ.set r0 sl2++[sl3])[q]? = some y→(getR (setR (vbd s ids) r0 (.dep e0 ys (m+1) (dwOf cs++dd))++[.dep el [x] 0 []]) q).live=true→(q=r0∧y=sl2)∨(q=s.length∧y=sl3):=by
    intro q y hq hy hl
    rcases hset q y hy with h2|⟨e1,e2,e3⟩|h2
    ·exact .inl h2
    ·rw [hget q e2,if_neg e1]at hl
     rcases hq with hq|hq
     ·simp only [List.mem_cons]at hq
      rw [if_pos (hq.resolve_left e1)]at hl;cases hl
     ·omega
    ·exact .inr h2
   have sep:∀b,sl2.has b→sl3.has b→False:=by
    intro b h2 h3
    rcases h2 with h2|h2<;>rcases h3 with h3|h3
    ·have e1:sl.blk=some b:=h2
     have e2:some h.size=some b:=h3
     rw [g1]at e1;cases e1;cases e2;omega
    ·have e1:sl.blk=some b:=h2
     rw [g1]at e1;cases e1
     exact hbk _ h3 rfl
    ·have e2:some h.size=some b:=h3
     cases e2
     exact Nat.lt_irrefl _ (g6 _ h2.1).1
    ·exact h2.2 h3
   rcases key q y hq hy hl with⟨e1,e2⟩|⟨e1,e2⟩<;>rcases key q' y' hq' hy' hl' with⟨e3,e4⟩|⟨e3,e4⟩
   ·exact hnq (e1.trans e3.symm)
   ·subst e2 e4;exact sep b hb hb'
   ·subst e2 e4;exact sep b hb' hb
   ·exact hnq (e1.trans e3.symm)
  ·intro him q hq a v ha har hv
   simp only [List.mem_cons]at hq
   by_cases e1:q=r0
   ·subst e1
    cases a with
    |own i=>
     simp only [AV.refs,List.cons.injEq,and_true]at har
     subst har
     simp only [RV]at hv ⊢
     obtain⟨y,z1,z2⟩:=hv
     rw [h1]at z1;cases z1
     refine⟨sl2,hsr,?_⟩
     rw [hself]
     rw [hg]at z2
     exact z2
    |bp i off=>
     simp only [AV.refs,List.cons.injEq,and_true]at har
     subst har
     simp only [RV]at hv ⊢
     obtain⟨y,z1,z2⟩:=hv
     rw [hg]at z2;exact z2.elim
    |ep i i' off=>
     simp only [AV.refs,List.cons.injEq,and_true]at har
     subst har
     simp only [RV]at hv ⊢
     obtain⟨y,z1,z2⟩:=hv
     rw [h1]at z1;cases z1
     refine⟨sl2,hsr,?_⟩
     rw [hself]
     rw [hg]at z2
     exact z2
    |win i lo=>
     simp only [AV.refs,List.cons.injEq,and_true]at har
     subst har
     simp only [RV]at hv ⊢
     obtain⟨y,z1,z2⟩:=hv
     rw [h1]at z1;cases z1
     refine⟨sl2,hsr,?_⟩
     rw [hself]
     rw [hg]at z2
     exact z2
    |dw i n i' off'=>
     simp only [AV.refs,List.cons.injEq,and_true]at har
     subst har
     simp only [RV]at hv ⊢
     obtain⟨y,z1,z2⟩:=hv
     refine⟨sl2,hsr,?_⟩
     rw [hself]
     rw [hg]at z2
     exact⟨z2.1,by have:=z2.2.1;omega,fun hn=>by have:=z2.2.1;omega⟩
    |_=>cases ha
   ·have hq':=hq.resolve_left e1
    obtain⟨sq,hsq⟩:=inv.slot (hidlt q hq')
    refine vop ⟨sq,by rw [hne q (hidlt q hq') e1];exact hsq⟩ ?_ (by rw [hget q (hidlt q hq'),if_neg e1,if_pos hq']) a v ha har hv
    obtain⟨_,_,h0,_⟩:=hida q hq'
    rw [h0];rfl
  ·intro him hrv q y hq hy
   rcases hset q y hy with⟨rfl,rfl⟩|⟨e1,e2,e3⟩|⟨rfl,rfl⟩
   ·rw [hself];exact hd2
   ·rw [hget q e2,if_neg e1]
    rcases hq with hq|hq
    ·simp only [List.mem_cons]at hq
     rw [if_pos (hq.resolve_left e1)];trivial
    ·omega
   ·rw [hgn];exact hd3
 ·intro sl' hs
  by_cases e1:q=r0
  ·subst e1
   rw [hsr]at hs;cases hs
   refine⟨sl,h1,fun b hb=>?_⟩
   rcases hb with hb|hb
   ·exact .inl hb
   ·exact .inr hb.1
  ·rw [hne q hq e1]at hs
   exact⟨sl',hs,fun _ hb=>hb⟩
theorem vzm {o:Oper}{e:Env}{t:TypeId}{parts:Array (Nat×Operand)}{el:Ty}{cs:List AV}{xs:List el.D}{ids:List Nat}{ch:Bool}{r0 j m:Nat}{e0:Ty}{ys:List e0.D}{dd:List Nat}(ho:o.op = .buildSlice t 1 parts)(ht:TyOk1 P (.slice el) t false)(hde:el.deepIn=true)
  (hf:vx6 (parts.toList.map fun p=>(p.1,ev e p.2)) (fun i=>some (i*el.size,el.size)) (vel 1 el.zcells)=some cs) (hx:vo3 s el 1 cs=some xs) (hn:1*el.size≤16777216)
  (hg:getR s r0 = .dep e0 ys m dd) (hse:vq5 cs=some (r0,j)) (hids:van s r0 m j 0 cs=some (ids,ch)) :
  OpOk P o e s [r0] (.own s.length) (setR (vbd s ids) r0 (.dep e0 ys (m+1) (dwOf cs++dd))++[.dep el xs 0 []]):=by
 intro X μ w a inv he next Q hnx
 obtain⟨te,ag',hu,hte⟩:=vd4 ht rfl
 obtain⟨vs',f1,f2⟩:=vyk (fun _ _ hp=>hp) (parts.toList.map fun p=>(p.1,ev e p.2)) (parts.toList.map fun(i,x)=>(i,a.eval x)) _ cs
  (if 1*el.size=0 then #[]else(Array.range (1*el.size)).map ((zval ag' el).cells[· % (zval ag' el).cells.size]!)) hf (by simp) (vuq he parts.toList) (by
   split
   ·rename_i h0
    have hp:=el.size_pos
    omega
   ·rw [zrow el 1 _ (vdw (.inl hte))]
    exact vka el 1)
 obtain⟨x,htk,hxs⟩:∃x,el.take s cs=some (x,[])∧xs=[x]:=by
  simp only [vo3]at hx
  split at hx
  ·rename_i x r htk
   cases r with
   |nil=>
    simp only [vo3,Option.some.injEq]at hx
    exact⟨x,htk,hx.symm⟩
   |cons _ _=>simp [vo3]at hx
  ·cases hx
 subst hxs
 obtain⟨μ',i1,x1,k1,k2,sl,k3,k4,k5⟩:=wqh (te:=te) inv hg hse hde htk f2 hids
 have hrun:(execOp a.eval o).run P w = .ok (.value (.slice (some ⟨w.heap.size,0,none⟩) 1 1)) { w with heap:=w.heap.push (.cells vs' te (0,0)) }:=by
  have hbig:¬(1*el.size>2^24):=by
   have:(2:Nat)^24=16777216:=by decide
   omega
  have h0:¬(1*el.size=0):=by have:=el.size_pos;omega
  rw [if_neg h0]at f1
  have hfill:Instr.fill (fun i=>some (i*el.size,el.size)) ((Array.range (1*el.size)).map fun x=>(zval ag' el).cells[x % (zval ag' el).cells.size]!) (parts.map fun(i,x)=>(i,a.eval x)).toList=some vs':=by
   rw [Array.toList_map];exact f1
  simp only [execOp,ho,Instr.buildSlice,Sem.run_bind,run_underlying hu,Result.andThen_ok,vcc hte.info,if_neg hbig,if_neg h0,Sem.run_pure,vcp hte.info,hfill,newRow,run_newObj]
 refine vun hrun (hnx _ _ μ' i1 ?_ x1 (fun b hb _=>by
  show (w.heap.push _)[b]? = _
  rw [Array.getElem?_push];simp [Nat.ne_of_lt hb]) ⟨rfl,rfl,rfl⟩ ⟨fun q hq _ _=>k1 q hq,fun q hq _ hd=>?_⟩)
 ·simp only [RV]
  refine⟨sl,k3,?_⟩
  have:getR (setR (vbd s ids) r0 (.dep e0 ys (m+1) (dwOf cs++dd))++[.dep el [x] 0 []]) s.length = .dep el [x] 0 []:=by
   have hl:(setR (vbd s ids) r0 (.dep e0 ys (m+1) (dwOf cs++dd))).length=s.length:=by rw [vap,vbm]
   rw [←hl];exact vjh _ _
  rw [this]
  exact⟨_,by rw [k4];rfl,.inr ⟨_,k5,rfl⟩⟩
 ·refine k2 q hq fun e1=>?_
  subst e1
  exact(hd (by rw [hg];rfl)).1 (by simp)
end
end Go.VE
