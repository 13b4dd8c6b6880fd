/- 'append' as a step of the state. -/
import Derived.Test.YtaaoeehlfihjdaaGreatU10
namespace Go.VE
set_option linter.unusedVariables false
set_option linter.unusedSimpArgs false
section
variable {X:Nat→Prop}{μ:List Slot}{s:St}{h:Heap}{I:Nat→Prop}
theorem ver {P:Program}{w:World}{e:Ty}{n m:Nat}{t t':TypeId}{ty:TypeId}{te:TypeId}{ag':Bool}{d:TypeDesc}{base:Option Addr}{cap:Nat}{v:Value}{ds:List Value}
  (hu:P.underlying t=some (.slice te)) (hte:TyOk P e te ag') (hu':P.underlying t'=some d) (hd:∀k,d≠.int k)
  (hl:∀w:World,(Builtin.lenOf v).run P w = .ok m w) (hf:∀w':World,w'.heap=w.heap→(Builtin.firstCells e.size m v).run P w' = .ok ds.toArray w')
  (hle:n+m≤cap) (w':World) (hst:(match base with|some a=>(storeCells (a.add (n*e.size)) ds).run P w|none=>.ok () w) = .ok () w') :
  (Builtin.append_ #[t,t'] ty #[.slice base n cap,v]).run P w = .ok (.slice base (n+m) cap) w':=by
 have hso:∀w',(sizeOf te).run P w' = .ok e.size w':=fun w'=>vcc hte.info w'
 have hnz:(match d with | .int _=>true|_=>false)=false:=by cases d<;>first|rfl|exact absurd rfl (hd _)
 have hf':=hf w rfl
 unfold Builtin.append_
 simp only [List.getElem?_toArray,List.getElem?_cons_zero,List.getElem?_cons_succ,Sem.run_bind,run_underlying hu,run_underlying hu',Result.andThen_ok,hso,hnz,hl,Sem.run_pure,Bool.false_eq_true,if_false]
 rw [if_pos hle]
 cases base with
 |none=>
  simp only at hst
  cases hst
  simp [hf']
 |some a=>
  simp only at hst
  simp [hf',hst]
theorem vvf {r:Nat}{v:Value}{e:Ty}{xs:List e.D}(hg:getR s r = .arr e xs)(hv:RV h I μ s (.own r) v) :
  ∃sl,μ[r]? = some sl∧∃a,v = .slice a xs.length sl.cap∧(sl.cap=0∨∃k,sl.blk=some k∧a=some ⟨k,0,none⟩):=by
 simp only [RV]at hv
 obtain⟨sl,h1,h2⟩:=hv
 rw [hg]at h2
 exact⟨sl,h1,h2⟩
theorem vde (c:Array Value):vmq c (0,0):=fun o _=>by simp
theorem v2s {h0:Heap}{μ0:List Slot}{s0:St}(inv:Inv X h μ s)(ext:Ext X h0 μ0 s0 h μ s)(e:Ty)(xs:List e.D)(c:Array Value)(el:TypeId)(fr:Nat×Nat)(cap:Nat)(hn:vmq c fr)
  (h1:c.size=cap*e.size) (h2:xs.length≤cap) (h3:∀i (hi:i<xs.length),Rep h (Im X h μ s) e ((c.toList.drop (i*e.size)).take e.size) xs[i]) :
  Inv X (h.push (.cells c el fr)) (μ++[{ blk:=some h.size,cap:=cap }]) (s++[.arr e xs])∧Ext X h0 μ0 s0 (h.push (.cells c el fr)) (μ++[{ blk:=some h.size,cap:=cap }]) (s++[.arr e xs])∧
   ∀I',RV (h.push (.cells c el fr)) I' (μ++[{ blk:=some h.size,cap:=cap }]) (s++[.arr e xs]) (.own s.length) (.slice (some ⟨h.size,0,none⟩) xs.length cap):=by
 obtain⟨i1,e1⟩:=v0r inv (.arr e xs) c el fr cap hn ⟨h1,h2,h3⟩
 refine⟨i1,ext.trans e1,fun I'=>?_⟩
 simp only [RV]
 refine⟨_,vdv inv _,?_⟩
 rw [vf9]
 exact⟨_,rfl,.inr ⟨_,rfl,rfl⟩⟩
theorem v8z {h0:Heap}{μ0:List Slot}{s0:St}(inv:Inv X h μ s)(ext:Ext X h0 μ0 s0 h μ s)(cs:List AV)(c:Array Value)(el:TypeId)
  (h1:RVs h (Im X h μ s) μ s cs c.toList) :
  Inv X (h.push (.cells c el (0,0))) (μ++[{ blk:=some h.size,cap:=0 }]) (s++[.box cs])∧Ext X h0 μ0 s0 (h.push (.cells c el (0,0))) (μ++[{ blk:=some h.size,cap:=0 }]) (s++[.box cs])∧
   ∀I',RV (h.push (.cells c el (0,0))) I' (μ++[{ blk:=some h.size,cap:=0 }]) (s++[.box cs]) (.bp s.length 0) (.pointer (some ⟨h.size,0,none⟩)):=by
 obtain⟨i1,e1⟩:=v0r inv (.box cs) c el (0,0) 0 (vde c) h1
 refine⟨i1,ext.trans e1,fun I'=>?_⟩
 simp only [RV]
 refine⟨_,vdv inv _,?_⟩
 rw [vf9]
 exact⟨_,rfl,rfl⟩
theorem va4:∀(vs:List Value) (w:World) (b o:Nat),Calm w (w.setCells b o vs)
 |[],w,b,o=>Calm.refl w
 |v::r,w,b,o=>by
  have h:=va4 r (w.setCell ⟨b,o,none⟩ v) b (o+1)
  exact⟨h.1.trans rfl,h.2.1.trans rfl,h.2.2.trans rfl⟩
theorem vdf {h:Heap}{μ ν:List Slot}{s:St}(inv:Inv X h μ s):∀r,r<s.length→(μ++ν)[r]? = μ[r]?:=fun r hr=>
 List.getElem?_append_left (by rw [inv.len];exact hr)
theorem vqd {P:Program}{e:Ty}{d x:AV}{k:K1}{r:Res}{t t' ty te:TypeId}{ag':Bool}{ds:TypeDesc}
  (hu:P.underlying t=some (.slice te)) (hte:TyOk P e te ag') (hu':P.underlying t'=some ds) (hd:∀k,ds≠.int k) (hk:vku s e d x k=some r) :
  ∃s',k (.own s.length) s'=some r∧(∀j,j<s.length→getR s' j=getR s j∨getR s' j = .gone)∧∀X μ (w:World) (dv xv:Value),Inv X w.heap μ s→RV w.heap (Im X w.heap μ s) μ s d dv→RV w.heap (Im X w.heap μ s) μ s x xv→
   ∃cv w' μ',(Builtin.append_ #[t,t'] ty #[dv,xv]).run P w = .ok cv w'∧Inv X w'.heap μ' s'∧RV w'.heap (Im X w'.heap μ' s') μ' s' (.own s.length) cv∧Ext X w.heap μ s w'.heap μ' s'∧
    (∀b,b<w.heap.size→vnq μ d.refs b→w'.heap[b]? = w.heap[b]?)∧Calm w w'∧∀r,r<s.length→μ'[r]? = μ[r]?:=by
 have hpush:∀(h:Heap) (ob:Obj) (b:Nat),b<h.size→(h.push ob)[b]? = h[b]?:=fun h ob b hb=>by rw [Array.getElem?_push];simp [Nat.ne_of_lt hb]
 unfold vku at hk
 split at hk
 ·
  split at hk
  ·rename_i ys hsrc
   split at hk
   ·rename_i hmax
    refine⟨_,hk,fun j hj=>.inl (vbf _ _ _ hj),?_⟩
    intro X μ w dv xv inv hdv hxv
    simp only [RV]at hdv
    obtain⟨a,rfl⟩:=hdv
    have hS:=v62 (P:=P) inv hsrc hxv
    by_cases hy:ys.length=0
    ·have hy':ys=[]:=by simpa using hy
     subst hy'
     obtain⟨l2,cs,f2,c2,o2,s2⟩:=hS
     have hcs:cs=[]:=by simpa using c2
     subst hcs
     obtain⟨i1,e1⟩:=vmz inv e
     refine⟨.slice a 0 0,w,_,?_,i1,?_,e1,fun _ _ _=>rfl,Calm.refl w,vdf inv⟩
     ·refine ver (n:=0) (m:=0) hu hte hu' hd l2 f2 (Nat.le_refl _) w ?_
      cases a<;>rfl
     ·simp only [RV]
      refine⟨_,vdv inv _,?_⟩
      rw [vf9]
      exact⟨a,rfl,.inl rfl⟩
    ·have hO:Src P w.heap (Im X w.heap μ s) e [] (.slice a 0 0):=vid ⟨a,0,rfl,Nat.le_refl _,.inl rfl⟩
     obtain⟨nc,C,g1,g2,g3,g4⟩:=vf6 (ty:=ty) (xs:=[]) hu hte hu' hd hO hS (by simp;omega) (by simpa using hmax)
     obtain⟨i1,e1,v1⟩:=v2s inv (Ext.refl _ _ _ _) e ys C te (0,0) nc (vde C) g2 (by simpa using g3) (by simpa using g4)
     refine⟨_,_,_,g1,i1,?_,e1,fun b hb _=>hpush _ _ b hb,⟨rfl,rfl,rfl⟩,vdf inv⟩
     have:=v1 (Im X (w.heap.push (.cells C te (0,0))) (μ++[{ blk:=some w.heap.size,cap:=nc }]) (s++[.arr e ys]))
     simpa using this
   ·cases hk
  ·cases hk
 ·
  rename_i q
  split at hk
  ·rename_i e' xs hg
   split at hk
   ·rename_i hee
    subst hee
    split at hk
    ·cases hk
    ·rename_i hix
     split at hk
     ·rename_i ys hsrc
      split at hk
      ·rename_i hmax
       refine⟨_,hk,fun j hj=>?_,?_⟩
       ·rw [vbf _ _ _ (by rw [vap];exact hj),vbg s q j _ (vbo hg (by simp))]
        by_cases e0:j=q
        ·exact .inr (if_pos e0)
        ·exact .inl (if_neg e0)
       simp only [vep]
       intro X μ w dv xv inv hdv hxv
       obtain⟨sl,hsl,a,rfl,ha⟩:=vvf hg hdv
       have hreg:=inv.reg q sl hsl
       rw [hg]at hreg
       have hS:=v62 (P:=P) inv hsrc hxv
       obtain⟨ig,eg⟩:=vi0 inv q (by rw [hg];rfl)
       have hlen:(setR s q .gone).length=s.length:=vap _ _ _
       have hcap:xs.length≤sl.cap:=by
        rcases hreg.2 with⟨_,h0,h1⟩|⟨k,c,el,fr,_,_,_,_,h2,_⟩
        ·rw [h1];exact Nat.zero_le _
        ·exact h2
       by_cases hfit:xs.length+ys.length≤sl.cap
       ·obtain⟨l2,cs,f2,c2,o2,s2⟩:=hS
        by_cases h0:sl.cap=0
        ·have hx0:xs=[]:=by
          have:xs.length=0:=by omega
          simpa using this
         have hy0:ys=[]:=by
          have:ys.length=0:=by omega
          simpa using this
         subst hx0;subst hy0
         have hcs:cs=[]:=by simpa using c2
         subst hcs
         obtain⟨i1,e1⟩:=vmz ig e'
         refine⟨.slice a 0 sl.cap,w,_,?_,i1,?_,eg.trans e1,fun _ _ _=>rfl,Calm.refl w,vdf inv⟩
         ·refine ver (n:=0) (m:=0) hu hte hu' hd l2 f2 (Nat.zero_le _) w ?_
          cases a<;>simp [storeCells]
         ·simp only [RV]
          refine⟨_,by rw [←hlen];exact vdv ig _,?_⟩
          rw [←hlen,vf9]
          exact⟨a,by rw [h0];rfl,.inl rfl⟩
        ·rcases ha with ha|⟨k,hk1,rfl⟩
         ·exact absurd ha h0
         rcases hreg.2 with⟨hb,_⟩|⟨k',c,el,fr,e1,e2,e3,e4,e5,e6⟩
         ·rw [hb]at hk1;cases hk1
         have hkk:k'=k:=by rw [e1]at hk1;exact Option.some.inj hk1
         subst hkk
         have hroom:xs.length*e'.size+cs.length≤c.size:=by
          rw [c2,←Nat.add_mul,e4];exact Nat.mul_le_mul_right _ hfit
         obtain⟨p1,p2,c',p3,p4⟩:=va6 k' el fr cs (xs.length*e'.size) w c e2 hroom
         have hsz:c'.size=c.size:=by
          rw [←Array.length_toList,←Array.length_toList,p4]
          simp;omega
         have hxl:(c.toList.take (xs.length*e'.size)).length=xs.length*e'.size:=by simp;omega
         have hmv:=vu2 inv q sl { blk:=some k',cap:=sl.cap } k' (.arr e' (xs++ys)) (w.setCells k' (xs.length*e'.size) cs).heap c' el fr hsl ⟨_,_,hg⟩ (fun _ hx=>hx) rfl (.inl e1)
          (by rw [p1];exact Nat.le_refl _) (fun b _ hb=>p2 b hb) p3 (vdx e3 hsz) (by
          refine⟨by rw [hsz];exact e4,by simpa using hfit,?_⟩
          intro i hi
          rw [p4]
          refine vl2 (xs:=xs++ys) (by rw [List.length_append,hxl,c2,List.length_append,Nat.add_mul]) (vfq hxl ?_ s2) i hi
          intro i hi
          have:=vg2 (l:=c.toList) (o:=0) (sz:=e'.size) hi
          simp only [List.drop_zero,Nat.zero_add]at this
          rw [this]
          exact e6 i hi)
         refine⟨.slice (some ⟨k',0,none⟩) (xs.length+ys.length) sl.cap,_,_,?_,hmv.1,?_,hmv.2,fun b hb hno=>p2 b (fun e0=>hno q (by simp [AV.refs]) sl hsl (.inl (e0▸e1))),va4 _ _ _ _,vdf inv⟩
         ·refine ver hu hte hu' hd l2 f2 hfit _ ?_
          simp only [vja,Nat.zero_add]
          exact vfg e2 e3 hroom o2
         ·simp only [RV]
          refine⟨_,vdv inv _,?_⟩
          have:getR (setR s q .gone++[.arr e' (xs++ys)]) s.length = .arr e' (xs++ys):=by rw [←hlen];exact vf9 _ _
          rw [this]
          exact⟨_,by simp,.inr ⟨_,rfl,rfl⟩⟩
       ·have hO:Src P w.heap (Im X w.heap μ s) e' xs (.slice a xs.length sl.cap):=v1o hreg ⟨a,rfl,ha⟩
        obtain⟨nc,C,g1,g2,g3,g4⟩:=vf6 (ty:=ty) hu hte hu' hd hO hS (by omega) hmax
        obtain⟨i1,e1,v1⟩:=v2s ig eg e' (xs++ys) C te (0,0) nc (vde C) g2 (by simpa using g3) (fun i hi=>Rep.mono eg.im _ _ _ (g4 i hi))
        rw [hlen]at v1
        refine⟨_,_,_,g1,i1,?_,e1,fun b hb _=>hpush _ _ b hb,⟨rfl,rfl,rfl⟩,vdf inv⟩
        have:=v1 (Im X (w.heap.push (.cells C te (0,0))) (μ++[{ blk:=some w.heap.size,cap:=nc }]) (setR s q .gone++[.arr e' (xs++ys)]))
        simpa using this
      ·cases hk
     ·cases hk
   ·cases hk
  ·cases hk
 ·cases hk
theorem v8n {P:Program}{sl:Slot}{e:Ty}{xs:List e.D}{v:Value}(hreg:DepOk h sl e xs [])(hv:OwnV sl xs.length v) :
  ∃(L:List (List Value)) (B:Nat→List Nat),L.length=xs.length∧SrcR P h e.size (fun(cs p:List Value)=>cs=p) L v∧(∀i,i<xs.length→(B i).Nodup∧∀b∈B i,sl.more b)∧
   (∀i j b,i<xs.length→j<xs.length→i≠j→b∈B i→b∉B j)∧∀i (hi:i<xs.length),DepEl h e (L.getD i []) xs[i] (B i):=by
 have hnil:xs=[]→∃(L:List (List Value)) (B:Nat→List Nat),L.length=xs.length∧SrcR P h e.size (fun(cs p:List Value)=>cs=p) L v∧(∀i,i<xs.length→(B i).Nodup∧∀b∈B i,sl.more b)∧
   (∀i j b,i<xs.length→j<xs.length→i≠j→b∈B i→b∉B j)∧∀i (hi:i<xs.length),DepEl h e (L.getD i []) xs[i] (B i):=by
  intro hx
  subst hx
  obtain⟨a,rfl,_⟩:=hv
  refine⟨[],fun _=>[],rfl,⟨fun _=>rfl,[],fun w _=>?_,by simp,by simp,fun i hi=>absurd hi (Nat.not_lt_zero _)⟩,fun i hi=>absurd hi (Nat.not_lt_zero _),fun i j b hi=>absurd hi (Nat.not_lt_zero _),fun i hi=>absurd hi (Nat.not_lt_zero _)⟩
  cases a with
  |none=>rfl
  |some a=>simp [Builtin.firstCells,loadCells,loadCellsFrom]
 rcases hreg with⟨_,_,h0,_⟩|⟨k,c,el,fr,g1,g2,g3,g4,g5,B,g6,g7,g8,g9⟩
 ·exact hnil h0
 ·obtain⟨a,rfl,ha⟩:=hv
  rcases ha with ha|⟨k',hk',ha⟩
  ·refine hnil ?_
   have:xs.length=0:=by omega
   simpa using this
  ·rw [g1]at hk';cases hk'
   subst ha
   have hsz:xs.length*e.size≤c.size:=by rw [g4];exact Nat.mul_le_mul_right _ g5
   have hlen:(c.toList.take (xs.length*e.size)).length=xs.length*e.size:=by simp;omega
   have hLget:∀i,i<xs.length→((List.range xs.length).map fun i=>(c.toList.drop (i*e.size)).take e.size).getD i []=(c.toList.drop (i*e.size)).take e.size:=by
    intro i hi
    simp [List.getD,hi]
   have hs:∀i,i<xs.length→(((c.toList.take (xs.length*e.size)).drop (i*e.size)).take e.size)=(c.toList.drop (i*e.size)).take e.size:=by
    intro i hi
    have:=vg2 (l:=c.toList) (o:=0) (sz:=e.size) hi
    simpa only [List.drop_zero,Nat.zero_add]using this
   refine⟨(List.range xs.length).map fun i=>(c.toList.drop (i*e.size)).take e.size,B,by simp,⟨fun _=>by simp [Builtin.lenOf],c.toList.take (xs.length*e.size),fun w hw=>?_,by simpa using hlen,?_,?_⟩,g7,g8,?_⟩
   ·have:=vdc (P:=P) (w:=w) (vs:=c.toList.take (xs.length*e.size)) (o:=0) (hw▸g2) (by
     intro j u hj
     rw [List.getElem?_take]at hj
     split at hj
     ·rw [Nat.zero_add,←Array.getElem?_toList];exact hj
     ·cases hj)
    rw [hlen]at this
    rw [show ((List.range xs.length).map fun i=>(c.toList.drop (i*e.size)).take e.size).length=xs.length by simp]
    exact this
   ·intro u hu
    obtain⟨p,hp,rfl⟩:=List.getElem_of_mem hu
    have hpos:=e.size_pos
    have hi:p / e.size<xs.length:=by
     rw [Nat.div_lt_iff_lt_mul hpos];omega
    refine DepEl.one _ _ _ _ (g9 (p / e.size) hi rfl) _ ?_
    refine List.mem_of_getElem? (i:=p % e.size) ?_
    rw [List.getElem?_take,if_pos (Nat.mod_lt _ hpos),List.getElem?_drop]
    have:p / e.size*e.size+p % e.size=p:=by rw [Nat.mul_comm];exact Nat.div_add_mod _ _
    rw [this]
    have h5:=List.getElem?_eq_getElem hp
    rw [List.getElem?_take,if_pos (by omega)]at h5
    exact h5
   ·intro i hi
    simp only [List.length_map,List.length_range]at hi
    rw [hs i hi]
    simp
   ·intro i hi
    rw [hLget i hi]
    exact g9 i hi rfl
theorem vor (inv:Inv X h μ s)(J:List Nat)(hJ:∀q∈J,(getR s q).isArr=true){k cap:Nat}{more:Nat→Prop}{e:Ty}{zs:List e.D}{C:Array Value}{el:TypeId}{fr:Nat×Nat}{h':Heap}{B:Nat→List Nat}
  (hsz:h.size≤h'.size) (hwh:k=h.size∨∃r∈J,∃sl,μ[r]? = some sl∧sl.blk=some k) (hkk:h'[k]? = some (.cells C el fr)) (hn:vmq C fr) (hoth:∀b,b<h.size→b≠k→h'[b]? = h[b]?)
  (hC:C.size=cap*e.size) (hcap:zs.length≤cap) (hmore:∀b,more b→b≠k∧∃q∈J,∃sq,μ[q]? = some sq∧sq.has b)
  (hB1:∀i,i<zs.length→(B i).Nodup∧∀b∈B i,more b) (hB2:∀i j b,i<zs.length→j<zs.length→i≠j→b∈B i→b∉B j)
  (hEl:∀i (hi:i<zs.length),DepEl h e ((C.toList.drop (i*e.size)).take e.size) zs[i] (B i)) :
  Inv X h' (μ++[⟨some k,cap,more⟩]) (vbd s J++[.dep e zs 0 []])∧Ext X h μ s h' (μ++[⟨some k,cap,more⟩]) (vbd s J++[.dep e zs 0 []]):=by
 have hJl:∀q∈J,(getR s q).live=true:=fun q hq=>Rg.isArr_live (hJ q hq)
 have hJlt:∀q∈J,q<s.length:=fun q hq=>vp4 (hJl q hq)
 have hlen:(vbd s J).length=s.length:=vbm _ _
 have hget:∀j,j<s.length→getR (vbd s J++[.dep e zs 0 []]) j=if j∈J then .gone else getR s j:=fun j hj=>by
  rw [vbf _ _ _ (hlen▸hj),vmm J s j hJlt]
 have hgn:getR (vbd s J++[.dep e zs 0 []]) s.length = .dep e zs 0 []:=by rw [←hlen];exact vjh _ _
 have hml:∀b,more b→b<h.size:=by
  intro b hb
  obtain⟨_,q,hq,sq,h1,h2⟩:=hmore b hb
  exact inv.blk_lt h1 (hJl q hq) h2
 have hcl:∀j x,(j∈J∨s.length≤j)→(μ++[(⟨some k,cap,more⟩:Slot)])[j]? = some x→(getR (vbd s J++[.dep e zs 0 []]) j).live=true→j=s.length∧x=⟨some k,cap,more⟩:=by
  intro j x hj hx hl
  rcases vur inv _ hx with⟨h1,h2⟩|h1
  ·rcases hj with hj|hj
   ·rw [hget j h1,if_pos hj]at hl;cases hl
   ·omega
  ·exact h1
 have hdep:DepOk h' ⟨some k,cap,more⟩ e zs []:=by
  refine .inr ⟨k,C,el,fr,rfl,hkk,hn,hC,hcap,B,fun b hb=>⟨Nat.lt_of_lt_of_le (hml b hb) hsz,(hmore b hb).1⟩,hB1,hB2,fun i hi _=>?_⟩
  exact DepEl.mono _ _ _ _ (fun b hb=>hoth b (hml b ((hB1 i hi).2 b hb)) (hmore b ((hB1 i hi).2 b hb)).1) (hEl i hi)
 refine vgo inv J hsz (by simp [hlen,inv.len]) (by simp [hlen]) ?_ ?_ ?_ ?_ ?_ ?_
 ·intro j hj hnj
  refine⟨List.getElem?_append_left (inv.len▸hj),?_⟩
  rw [hget j hj,if_neg hnj]
 ·intro b hb hno
  rcases hwh with h1|⟨r,hr,sl,h1,h2⟩
  ·exact hoth b hb (by omega)
  ·exact hoth b hb fun e0=>hno ⟨r,hr,sl,h1,hJl r hr,.inl (e0▸h2)⟩
 ·intro j x b hj hx hl hb
  obtain⟨rfl,rfl⟩:=hcl j x hj hx hl
  rcases hb with hb|hb
  ·cases hb
   rcases hwh with h1|⟨r,hr,sl,h1,h2⟩
   ·exact .inl (by omega)
   ·exact .inr ⟨r,hr,sl,h1,hJl r hr,.inl h2⟩
  ·obtain⟨_,q,hq,sq,h1,h2⟩:=hmore b hb
   exact .inr ⟨q,hq,sq,h1,hJl q hq,h2⟩
 ·intro j j' x x' b hne hj hj' hx hx' hl hl'
  exact absurd ((hcl j x hj hx hl).1.trans (hcl j' x' hj' hx' hl').1.symm) hne
 ·intro him q hq a v ha har hv
  obtain⟨sq,hsq⟩:=inv.slot (hJlt q hq)
  refine vop ⟨sq,by rw [List.getElem?_append_left (inv.len▸hJlt q hq)];exact hsq⟩ (hJ q hq) (by rw [hget q (hJlt q hq),if_pos hq]) a v ha har hv
 ·intro him hrv j x hj hx
  rcases vur inv _ hx with⟨h1,h2⟩|⟨rfl,rfl⟩
  ·rcases hj with hj|hj
   ·rw [hget j h1,if_pos hj];trivial
   ·omega
  ·rw [hgn];exact hdep
def Shr (μ μ':List Slot)(j:Nat):Prop:=∀sl',μ'[j]? = some sl'→∃sl,μ[j]? = some sl∧∀b,sl'.has b→sl.has b
theorem Shr.of_eq {μ μ':List Slot}{j:Nat}(h:μ'[j]? = μ[j]?):Shr μ μ' j:=fun sl' hs=>⟨sl',h▸hs,fun _ hb=>hb⟩
theorem Shr.trans {μ μ1 μ2:List Slot}{j:Nat}(h1:Shr μ μ1 j)(h2:Shr μ1 μ2 j):Shr μ μ2 j:=by
 intro sl' hs
 obtain⟨sl1,g1,g2⟩:=h2 sl' hs
 obtain⟨sl,g3,g4⟩:=h1 sl1 g1
 exact⟨sl,g3,fun b hb=>g4 b (g2 b hb)⟩
theorem wau (inv:Inv X h μ s)(r:Nat):∃μ',Inv X h μ' (vv3 s r)∧Ext X h μ s h μ' (vv3 s r)∧(∀j,Shr μ μ' j)∧∀j,(j=r→(getR (vv3 s r) r).isDep=(getR s r).isDep)→μ'[j]? = μ[j]?:=by
 unfold vv3
 split
 ·rename_i e xs n hg
  obtain⟨μ',i1,e1,k1,k2⟩:=wgt inv r e xs n hg
  refine⟨μ',i1,e1,fun j sl' hs=>by obtain⟨sl,g1,_,_,g2⟩:=k1 j sl' hs;exact⟨sl,g1,g2⟩,fun j hj=>?_⟩
  by_cases e0:j=r
  ·have:=hj e0
   rw [vbg _ _ _ _ (vbo hg (by simp)),if_pos rfl,hg]at this;cases this
  ·exact k2 j e0
 ·exact⟨μ,inv,Ext.refl _ _ _ _,fun j=>Shr.of_eq rfl,fun _ _=>rfl⟩
theorem vtc (s:St)(r:Nat):(vv3 s r).length=s.length:=by
 unfold vv3
 split
 ·exact vap _ _ _
 ·rfl
theorem wl0 {μ μ':List Slot}{l:List Nat}(hk:∀j,Shr μ μ' j){b:Nat}(hn:vnq μ l b):vnq μ' l b:=by
 intro r hr sl' hs hb
 obtain⟨sl,g1,g2⟩:=hk r sl' hs
 exact hn r hr sl g1 (g2 b hb)
def wso (P:Program)(t t' ty:TypeId)(s:St)(d x:AV)(s':St):Prop:=
 ∀X μ (w:World) (dv xv:Value),Inv X w.heap μ s→RV w.heap (Im X w.heap μ s) μ s d dv→RV w.heap (Im X w.heap μ s) μ s x xv→
   ∃cv w' μ',(Builtin.append_ #[t,t'] ty #[dv,xv]).run P w = .ok cv w'∧Inv X w'.heap μ' s'∧RV w'.heap (Im X w'.heap μ' s') μ' s' (.own s.length) cv∧Ext X w.heap μ s w'.heap μ' s'∧
    (∀b,b<w.heap.size→vnq μ d.refs b→w'.heap[b]? = w.heap[b]?)∧Calm w w'∧(∀r,r<s.length→Shr μ μ' r)∧∀r,r<s.length→((getR s r).isDep=true→(getR s' r).isDep=true)→μ'[r]? = μ[r]?
theorem v9w {P:Program}{e:Ty}{d x:AV}{k:K1}{r:Res}{t t' ty te:TypeId}{ag':Bool}{ds:TypeDesc}
  (hu:P.underlying t=some (.slice te)) (hte:TyOk P e te ag') (hu':P.underlying t'=some ds) (hd:∀k,ds≠.int k) (hk:vku s e d x k=some r) :
  ∃s',k (.own s.length) s'=some r∧wso P t t' ty s d x s':=by
 obtain⟨s',h1,_,h2⟩:=vqd (ty:=ty) hu hte hu' hd hk
 refine⟨s',h1,fun X μ w dv xv inv hdv hxv=>?_⟩
 obtain⟨cv,w',μ',g1,g2,g3,g4,g5,g6,g7⟩:=h2 X μ w dv xv inv hdv hxv
 exact⟨cv,w',μ',g1,g2,g3,g4,g5,g6,fun r hr=>Shr.of_eq (g7 r hr),fun r hr _=>g7 r hr⟩
theorem v85 {P:Program}{e:Ty}{d x:AV}{k:K1}{r:Res}{t t' ty te:TypeId}{ag':Bool}{ds:TypeDesc}(q:Nat)
  (hu:P.underlying t=some (.slice te)) (hte:TyOk P e te ag') (hu':P.underlying t'=some ds) (hd:∀k,ds≠.int k) (hk:vku (vv3 s q) e d x k=some r) :
  ∃s',k (.own s.length) s'=some r∧wso P t t' ty s d x s':=by
 obtain⟨s',h1,h0,h2⟩:=vqd (ty:=ty) hu hte hu' hd hk
 rw [vtc]at h1 h0
 refine⟨s',h1,fun X μ w dv xv inv hdv hxv=>?_⟩
 obtain⟨μ1,i1,e1,k1,k2⟩:=wau inv q
 obtain⟨cv,w',μ',g1,g2,g3,g4,g5,g6,g7⟩:=h2 X μ1 w dv xv i1 (e1.rv _ _ hdv) (e1.rv _ _ hxv)
 rw [vtc]at g3 g7
 refine⟨cv,w',μ',g1,g2,g3,e1.trans g4,fun b hb hn=>g5 b hb (wl0 k1 hn),g6,fun r hr=>(k1 r).trans (Shr.of_eq (g7 r hr)),fun r hr hdp=>(g7 r hr).trans (k2 r fun e0=>?_)⟩
 subst e0
 cases hc:(getR s r).isDep with
 |false=>
  unfold vv3
  revert hc
  cases hg:getR s r with
  |dep e xs n dd=>intro hc;cases hc
  |_=>intro _;simp only;rw [hg];rfl
 |true=>
  have h5:=hdp hc
  rcases h0 r hr with h7|h7
  ·rw [h7]at h5;exact h5
  ·rw [h7]at h5;cases h5
theorem vvg {p:Nat→Prop}(inv:Inv X h μ s)(ν:List Slot):(∀r,r<s.length→Shr μ (μ++ν) r)∧∀r,r<s.length→p r→(μ++ν)[r]? = μ[r]?:=⟨fun r hr=>Shr.of_eq (vdf inv r hr),fun r hr _=>vdf inv r hr⟩
theorem v98 {α:Type}{l:List α}{i:Nat}{d:α}(h:i<l.length):l.getD i d=l[i]:=by
 simp [List.getD,List.getElem?_eq_getElem h]
theorem v4j {P:Program}{e:Ty}{d:AV}{q m:Nat}{ys:List e.D}{k:K1}{r:Res}{t t' ty te:TypeId}{ag':Bool}{ds:TypeDesc}
  (hu:P.underlying t=some (.slice te)) (hte:TyOk P e te ag') (hu':P.underlying t'=some ds) (hd:∀k,ds≠.int k) (hq:getR s q = .dep e ys m []) (hk:v89 s e d q ys k=some r) :
  ∃s',k (.own s.length) s'=some r∧wso P t t' ty s d (.own q) s':=by
 have hpush:∀(h:Heap) (ob:Obj) (b:Nat),b<h.size→(h.push ob)[b]? = h[b]?:=fun h ob b hb=>by rw [Array.getElem?_push];simp [Nat.ne_of_lt hb]
 have hqa:(getR s q).isArr=true:=by rw [hq];rfl
 have hql:(getR s q).live=true:=by rw [hq];rfl
 have hnew:∀{J:List Nat} {zs:List e.D} {μ':List Slot} {sl:Slot},μ'[s.length]? = some sl→∀{I':Nat→Prop} {h':Heap} {cv:Value},OwnV sl zs.length cv→
   RV h' I' μ' (vbd s J++[.dep e zs 0 []]) (.own s.length) cv:=by
  intro J zs μ' sl hsl I' h' cv hcv
  simp only [RV]
  refine⟨sl,hsl,?_⟩
  have:getR (vbd s J++[.dep e zs 0 []]) s.length = .dep e zs 0 []:=by rw [←vbm J s];exact vjh _ _
  rw [this]
  exact hcv
 unfold v89 at hk
 split at hk
 ·split at hk
  ·rename_i hmax
   refine⟨_,hk,?_⟩
   intro X μ w dv xv inv hdv hxv
   simp only [RV]at hdv hxv
   obtain⟨a,rfl⟩:=hdv
   obtain⟨sq,hsq,hxv⟩:=hxv
   have hreg:=inv.reg q sq hsq
   rw [hq]at hxv hreg
   obtain⟨L,B,l1,hS,b1,b2,b3⟩:=v8n (P:=P) hreg hxv
   have hlast:∀sl:Slot,(μ++[sl])[s.length]? = some sl:=fun sl=>by rw [←inv.len];simp
   by_cases hy:ys.length=0
   ·have hy':ys=[]:=by simpa using hy
    subst hy'
    obtain⟨l2,cs,f2,c2,o2,s2⟩:=hS
    have hL0:L.length=0:=l1
    have hcs:cs=[]:=by rw [hL0]at c2;simpa using c2
    subst hcs
    obtain⟨ig,eg⟩:=vi0 inv q hqa
    obtain⟨i1,e1⟩:=vhv ig e
    refine⟨.slice a 0 0,w,_,?_,i1,hnew (J:=[q]) (hlast _) ⟨a,rfl,.inl rfl⟩,eg.trans e1,fun _ _ _=>rfl,Calm.refl w,vvg inv _⟩
    refine ver (n:=0) (m:=0) hu hte hu' hd (fun w=>by rw [l2 w,hL0]) (fun w' hw=>by have:=f2 w' hw;rwa [hL0]at this) (Nat.le_refl _) w ?_
    cases a<;>rfl
   ·have hO:SrcR P w.heap e.size (fun(cs p:List Value)=>cs=p) [] (.slice a 0 0):=by
     refine⟨fun _=>rfl,[],fun w _=>?_,by simp,by simp,fun i hi=>absurd hi (Nat.not_lt_zero _)⟩
     cases a with
     |none=>rfl
     |some a=>simp [Builtin.firstCells,loadCells,loadCellsFrom]
    obtain⟨nc,C,g1,g2,g3,g4⟩:=vf6 (ty:=ty) (xs:=[]) hu hte hu' hd hO hS (by simp;omega) (by simp;omega)
    simp only [List.nil_append,List.length_nil,Nat.zero_add]at g1 g3 g4
    have hp:=vor inv [q] (by simpa using hqa) (k:=w.heap.size) (cap:=nc) (more:=sq.more) (e:=e) (zs:=ys) (C:=C) (el:=te) (fr:=(0,0)) (h':=w.heap.push (.cells C te (0,0))) (B:=B) (by simp) (.inl rfl) (by simp) (vde C)
     (fun b hb _=>hpush _ _ b hb) g2 (by omega) (fun b hb=>⟨by have:=inv.blk_lt hsq hql (.inr hb);omega,q,by simp,sq,hsq,.inr hb⟩) b1 b2 (fun i hi=>by
      have h5:=g4 i (by omega)
      rw [h5,←v98 (d:=[]) (by omega)]
      exact b3 i hi)
    refine⟨_,_,_,g1,hp.1,hnew (J:=[q]) (hlast _) ⟨_,by rw [l1],.inr ⟨_,rfl,rfl⟩⟩,hp.2,fun b hb _=>hpush _ _ b hb,⟨rfl,rfl,rfl⟩,vvg inv _⟩
  ·cases hk
 ·rename_i r0
  split at hk
  ·rename_i e' xs n hg
   split at hk
   ·rename_i hee
    subst hee
    cases hbq:Nat.beq r0 q with
    |true=>rw [hbq]at hk;cases hk
    |false=>
     rw [hbq]at hk
     simp only [cond_false]at hk
     have hne:r0≠q:=by
      intro e0
      subst e0
      rw [Nat.beq_refl]at hbq;cases hbq
     split at hk
     ·rename_i hmax
      refine⟨_,hk,?_⟩
      simp only [vep]
      have hra:(getR s r0).isArr=true:=by rw [hg];rfl
      have hrl:(getR s r0).live=true:=by rw [hg];rfl
      intro X μ w dv xv inv hdv hxv
      simp only [RV]at hdv hxv
      obtain⟨sr,hsr,hdv⟩:=hdv
      have hregr:=inv.reg r0 sr hsr
      rw [hg]at hdv hregr
      obtain⟨sq,hsq,hxv⟩:=hxv
      have hreg:=inv.reg q sq hsq
      rw [hq]at hxv hreg
      obtain⟨L,B,l1,hS,b1,b2,b3⟩:=v8n (P:=P) hreg hxv
      obtain⟨L0,B0,l0,hS0,c1,c2,c3⟩:=v8n (P:=P) hregr hdv
      obtain⟨a,rfl,ha⟩:=hdv
      have hlast:∀sl:Slot,(μ++[sl])[s.length]? = some sl:=fun sl=>by rw [←inv.len];simp
      have hdis:∀b,sr.has b→¬sq.has b:=fun b hb=>inv.dis r0 q sr sq b hne hsr hsq hrl hql hb
      have hJ:∀j∈[r0,q],(getR s j).isArr=true:=by
       intro j hj
       simp only [List.mem_cons,List.not_mem_nil,or_false]at hj
       rcases hj with rfl|rfl
       ·exact hra
       ·exact hqa
      have hBB1:∀i,i<(xs++ys).length→((if i<xs.length then B0 i else B (i-xs.length)).Nodup∧∀b∈(if i<xs.length then B0 i else B (i-xs.length)),sr.more b∨sq.more b):=by
       intro i hi
       rw [List.length_append]at hi
       split
       ·rename_i h0
        exact⟨(c1 i h0).1,fun b hb=>.inl ((c1 i h0).2 b hb)⟩
       ·have h0:i-xs.length<ys.length:=by omega
        exact⟨(b1 _ h0).1,fun b hb=>.inr ((b1 _ h0).2 b hb)⟩
      have hBB2:∀i j b,i<(xs++ys).length→j<(xs++ys).length→i≠j→b∈(if i<xs.length then B0 i else B (i-xs.length))→b∉(if j<xs.length then B0 j else B (j-xs.length)):=by
       intro i j b hi hj hij hb hb'
       rw [List.length_append]at hi hj
       split at hb<;>split at hb'
       ·rename_i h0 h1
        exact c2 i j b h0 h1 hij hb hb'
       ·rename_i h0 h1
        exact hdis b (.inr ((c1 i h0).2 b hb)) (.inr ((b1 _ (by omega)).2 b hb'))
       ·rename_i h0 h1
        exact hdis b (.inr ((c1 j h1).2 b hb')) (.inr ((b1 _ (by omega)).2 b hb))
       ·exact b2 _ _ b (by omega) (by omega) (by omega) hb hb'
      have hElz:∀(C:List Value),(∀i (hi:i<(L0++L).length),(C.drop (i*e'.size)).take e'.size=(L0++L)[i])→
        ∀i (hi:i<(xs++ys).length),DepEl w.heap e' ((C.drop (i*e'.size)).take e'.size) (xs++ys)[i] (if i<xs.length then B0 i else B (i-xs.length)):=by
       intro C hC i hi
       have hi':i<(L0++L).length:=by rw [List.length_append]at hi ⊢;omega
       rw [hC i hi']
       by_cases h0:i<xs.length
       ·rw [if_pos h0,List.getElem_append_left (by omega),List.getElem_append_left h0,←v98 (d:=[]) (by omega)]
        exact c3 i h0
       ·rw [List.length_append]at hi
        rw [if_neg h0,List.getElem_append_right (by omega),List.getElem_append_right (by omega)]
        have h5:i-L0.length<L.length:=by omega
        rw [←v98 (d:=[]) h5,l0]
        exact b3 _ (by omega)
      have hmb:∀b,sr.more b∨sq.more b→∃j∈[r0,q],∃sl,μ[j]? = some sl∧sl.has b:=by
       rintro b (hb|hb)
       ·exact⟨r0,by simp,sr,hsr,.inr hb⟩
       ·exact⟨q,by simp,sq,hsq,.inr hb⟩
      have hmlt:∀b,sr.more b∨sq.more b→b<w.heap.size:=by
       rintro b (hb|hb)
       ·exact inv.blk_lt hsr hrl (.inr hb)
       ·exact inv.blk_lt hsq hql (.inr hb)
      by_cases hfit:xs.length+ys.length≤sr.cap
      ·by_cases h0:sr.cap=0
       ·have hx0:xs=[]:=by
         have:xs.length=0:=by omega
         simpa using this
        have hy0:ys=[]:=by
         have:ys.length=0:=by omega
         simpa using this
        subst hx0;subst hy0
        obtain⟨l2,cs,f2,cc2,o2,s2⟩:=hS
        have hL0:L.length=0:=l1
        have hcs:cs=[]:=by rw [hL0]at cc2;simpa using cc2
        subst hcs
        obtain⟨ig,eg⟩:=vi0 inv r0 hra
        obtain⟨ig2,eg2⟩:=vi0 ig q (by rw [vbg _ _ _ _ (vp4 hrl),if_neg (fun e0=>hne e0.symm)];exact hqa)
        obtain⟨i1,e1⟩:=vhv ig2 e'
        refine⟨.slice a 0 sr.cap,w,_,?_,i1,hnew (J:=[r0,q]) (hlast _) ⟨a,by rw [h0];rfl,.inl rfl⟩,(eg.trans eg2).trans e1,fun _ _ _=>rfl,Calm.refl w,vvg inv _⟩
        refine ver (n:=0) (m:=0) hu hte hu' hd (fun w=>by rw [l2 w,hL0]) (fun w' hw=>by have:=f2 w' hw;rwa [hL0]at this) (Nat.zero_le _) w ?_
        cases a<;>simp [storeCells]
       ·rcases ha with ha|⟨k,hk1,rfl⟩
        ·exact absurd ha h0
        rcases hregr with⟨hb,_⟩|⟨k',c,el,fr,e1,e2,e3,e4,e5,B9,e6,e7,e8,e9⟩
        ·rw [hb]at hk1;cases hk1
        have hkk:k'=k:=by rw [e1]at hk1;exact Option.some.inj hk1
        subst hkk
        obtain⟨l2,cs,f2,cc2,o2,s2⟩:=hS
        rw [l1]at cc2
        have hroom:xs.length*e'.size+cs.length≤c.size:=by
         rw [cc2,←Nat.add_mul,e4];exact Nat.mul_le_mul_right _ hfit
        obtain⟨p1,p2,c',p3,p4⟩:=va6 k' el fr cs (xs.length*e'.size) w c e2 hroom
        have hsz:c'.size=c.size:=by
         rw [←Array.length_toList,←Array.length_toList,p4]
         simp;omega
        obtain⟨l3,cs0,f3,cc3,o3,s3⟩:=hS0
        rw [l0]at cc3
        have hcs0:cs0=c.toList.take (xs.length*e'.size):=by
         have h7:=f3 w rfl
         rw [l0]at h7
         have h8:=vdc (P:=P) (w:=w) (vs:=c.toList.take (xs.length*e'.size)) (o:=0) e2 (by
          intro j u hj
          rw [List.getElem?_take]at hj
          split at hj
          ·rw [Nat.zero_add,←Array.getElem?_toList];exact hj
          ·cases hj)
         have h9:(c.toList.take (xs.length*e'.size)).length=xs.length*e'.size:=by
          have:=Nat.mul_le_mul_right e'.size e5
          simp;omega
         rw [h9]at h8
         have h10:(Builtin.firstCells e'.size xs.length (.slice (some ⟨k',0,none⟩) xs.length sr.cap)).run P w = .ok (c.toList.take (xs.length*e'.size)).toArray w:=h8
         rw [h10]at h7
         simp only [Result.ok.injEq,and_true]at h7
         have:=congrArg Array.toList h7
         simpa using this.symm
        have hp:=vor inv [r0,q] hJ (k:=k') (cap:=sr.cap) (more:=fun b=>sr.more b∨sq.more b) (e:=e') (zs:=xs++ys) (C:=c') (el:=el) (fr:=fr) (h':=(w.setCells k' (xs.length*e'.size) cs).heap)
         (B:=fun i=>if i<xs.length then B0 i else B (i-xs.length)) (by rw [p1];exact Nat.le_refl _) (.inr ⟨r0,by simp,sr,hsr,e1⟩) p3 (vdx e3 hsz) (fun b _ hb=>p2 b hb) (by rw [hsz];exact e4) (by simpa using hfit)
         (fun b hb=>⟨fun e0=>by
          subst e0
          rcases hb with hb|hb
          ·exact(e6 b hb).2 rfl
          ·exact hdis b (.inl e1) (.inr hb),hmb b hb⟩) hBB1 hBB2 (hElz c'.toList (by
          rw [p4,←hcs0]
          exact vl2 (R:=fun(cs p:List Value)=>cs=p) (xs:=L0++L) (by rw [List.length_append,cc3,cc2,List.length_append,l0,l1,Nat.add_mul])
           (vfq (R:=fun(cs p:List Value)=>cs=p) (xs:=L0) (ys:=L) (by rw [cc3,l0]) s3 s2)))
        refine⟨.slice (some ⟨k',0,none⟩) (xs.length+ys.length) sr.cap,_,_,?_,hp.1,hnew (J:=[r0,q]) (hlast _) ⟨_,by simp,.inr ⟨_,rfl,rfl⟩⟩,hp.2,fun b hb hno=>p2 b (fun e0=>hno r0 (by simp [AV.refs]) sr hsr (.inl (e0▸e1))),va4 _ _ _ _,vvg inv _⟩
        refine ver (m:=ys.length) hu hte hu' hd (fun w=>by rw [l2 w,l1]) (fun w' hw=>by have:=f2 w' hw;rwa [l1]at this) hfit _ ?_
        simp only [vja,Nat.zero_add]
        exact vfg e2 e3 hroom o2
      ·rw [←l0]at hfit hmax
       rw [←l1]at hfit hmax
       have hS0':SrcR P w.heap e'.size (fun(cs p:List Value)=>cs=p) L0 (.slice a L0.length sr.cap):=by rw [l0];exact hS0
       obtain⟨nc,C,g1,g2,g3,g4⟩:=vf6 (ty:=ty) hu hte hu' hd hS0' hS (by omega) hmax
       rw [l0,l1]at g1 g3
       have hp:=vor inv [r0,q] hJ (k:=w.heap.size) (cap:=nc) (more:=fun b=>sr.more b∨sq.more b) (e:=e') (zs:=xs++ys) (C:=C) (el:=te) (fr:=(0,0)) (h':=w.heap.push (.cells C te (0,0)))
        (B:=fun i=>if i<xs.length then B0 i else B (i-xs.length)) (by simp) (.inl rfl) (by simp) (vde C) (fun b hb _=>hpush _ _ b hb) g2 (by simpa using g3)
        (fun b hb=>⟨by have:=hmlt b hb;omega,hmb b hb⟩) hBB1 hBB2 (hElz C.toList g4)
       exact⟨_,_,_,g1,hp.1,hnew (J:=[r0,q]) (hlast _) ⟨_,by simp,.inr ⟨_,rfl,rfl⟩⟩,hp.2,fun b hb _=>hpush _ _ b hb,⟨rfl,rfl,rfl⟩,vvg inv _⟩
     ·cases hk
   ·cases hk
  ·exact v85 q hu hte hu' hd hk
 ·cases hk
theorem v5o {P:Program}{e:Ty}{d x:AV}{k:K1}{r:Res}{t t' ty te:TypeId}{ag':Bool}{ds:TypeDesc}
  (hu:P.underlying t=some (.slice te)) (hte:TyOk P e te ag') (hu':P.underlying t'=some ds) (hd:∀k,ds≠.int k) (hk:v26 s e d x k=some r) :
  ∃s',k (.own s.length) s'=some r∧wso P t t' ty s d x s':=by
 unfold v26 at hk
 cases hde:e.deep with
 |false=>rw [hde]at hk;exact v9w hu hte hu' hd hk
 |true=>
  rw [hde]at hk
  simp only [cond_true]at hk
  split at hk
  ·rename_i q
   split at hk
   ·rename_i e' ys m hq
    split at hk
    ·rename_i hee
     subst hee
     exact v4j hu hte hu' hd hq hk
    ·cases hk
   ·split at hk
    ·exact v85 _ hu hte hu' hd hk
    ·exact v9w hu hte hu' hd hk
  ·split at hk
   ·exact v85 _ hu hte hu' hd hk
   ·exact v9w hu hte hu' hd hk
end
end Go.VE
