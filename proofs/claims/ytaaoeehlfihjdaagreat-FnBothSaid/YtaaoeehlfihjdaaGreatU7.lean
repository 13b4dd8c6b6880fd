/- Data out of cells; arguments in their plain form; the call as a step. -/
import Derived.Test.YtaaoeehlfihjdaaGreatU6
namespace Go.VE
set_option linter.unusedVariables false
section
variable {X:Nat→Prop}{h:Heap}{μ:List Slot}{s:St}{I:Nat→Prop}
theorem vex:∀(as bs:List AV) (vs ws:List Value),RVs h I μ s as vs→RVs h I μ s bs ws→RVs h I μ s (as++bs) (vs++ws)
 |[],bs,vs,ws,h1,h2=>by simp only [RVs]at h1;subst h1;exact h2
 |a::as,bs,vs,ws,h1,h2=>by
  simp only [RVs]at h1
  obtain⟨v,r,rfl,h3,h4⟩:=h1
  simp only [List.cons_append,RVs]
  exact⟨v,r++ws,rfl,h3,vex as bs r ws h4 h2⟩
theorem wo5:∀(as bs:List AV) (vs:List Value),RVs h I μ s (as++bs) vs→∃v1 v2,vs=v1++v2∧RVs h I μ s as v1∧RVs h I μ s bs v2
 |[],bs,vs,h1=>⟨[],vs,rfl,by simp only [RVs],h1⟩
 |a::as,bs,vs,h1=>by
  simp only [List.cons_append,RVs]at h1
  obtain⟨v,r,rfl,h3,h4⟩:=h1
  obtain⟨v1,v2,rfl,h5,h6⟩:=wo5 as bs r h4
  exact⟨v::v1,v2,rfl,by simp only [RVs];exact⟨v,v1,rfl,h3,h5⟩,h6⟩
theorem vci:∀(as:List AV) (vs:List Value),RVs h I μ s as vs→vs.length=as.length
 |[],vs,h1=>by simp only [RVs]at h1;subst h1;rfl
 |a::as,vs,h1=>by
  simp only [RVs]at h1
  obtain⟨v,r,rfl,_,h4⟩:=h1
  simp [vci as r h4]
theorem vsv:∀(as:List AV) (vs:List Value),RVs h I μ s as vs→∀i v,vs[i]? = some v→RV h I μ s (getE as i) v
 |[],vs,h1,i,v,hv=>by simp only [RVs]at h1;subst h1;simp at hv
 |a::as,vs,h1,i,v,hv=>by
  simp only [RVs]at h1
  obtain⟨u,r,rfl,h3,h4⟩:=h1
  cases i with
  |zero=>simp at hv;subst hv;exact h3
  |succ i=>simp at hv;exact vsv as r h4 i v hv
theorem vpv:∀(as:List AV) (vs:List Value),RVs h I μ s as vs→∀i a v,RV h I μ s a v→RVs h I μ s (setE as i a) (vs.set i v)
 |[],vs,h1,i,a,v,hv=>by simp only [RVs]at h1;subst h1;simp [setE,RVs]
 |b::as,vs,h1,i,a,v,hv=>by
  simp only [RVs]at h1
  obtain⟨u,r,rfl,h3,h4⟩:=h1
  cases i with
  |zero=>simp only [setE,List.set_cons_zero,RVs];exact⟨v,r,rfl,hv,h4⟩
  |succ i=>simp only [setE,List.set_cons_succ,RVs];exact⟨u,_,rfl,h3,vpv as r h4 i a v hv⟩
theorem v44:∀(as:List AV) (vs:List Value) (n:Nat),RVs h I μ s as vs→RVs h I μ s (as.drop n) (vs.drop n)
 |[],vs,n,h1=>by simp only [RVs]at h1;subst h1;simp [RVs]
 |a::as,vs,0,h1=>h1
 |a::as,vs,n+1,h1=>by
  simp only [RVs]at h1
  obtain⟨u,r,rfl,h3,h4⟩:=h1
  exact v44 as r n h4
theorem v29:∀(as:List AV) (vs:List Value) (n:Nat),RVs h I μ s as vs→RVs h I μ s (as.take n) (vs.take n)
 |[],vs,n,h1=>by simp only [RVs]at h1;subst h1;simp [RVs]
 |a::as,vs,0,h1=>by simp [RVs]
 |a::as,vs,n+1,h1=>by
  simp only [RVs]at h1
  obtain⟨u,r,rfl,h3,h4⟩:=h1
  simp only [List.take_succ_cons,RVs]
  exact⟨u,_,rfl,h3,v29 as r n h4⟩
theorem vjq:∀(T:Ty) (x:T.D) (vs:List Value),Rep h I T vs x→RVs h I μ s (T.cells x) vs
 |.int k,n,vs,hr=>by rw [show vs=_ from hr];simp only [Ty.cells,RVs,RV];exact⟨_,[],rfl,rfl,rfl⟩
 |.bool,n,vs,hr=>by rw [show vs=_ from hr];simp only [Ty.cells,RVs,RV];exact⟨_,[],rfl,rfl,rfl⟩
 |.str,n,vs,hr=>by rw [show vs=_ from hr];simp only [Ty.cells,RVs,RV];exact⟨_,[],rfl,rfl,rfl⟩
 |.pair a b,x,vs,⟨c,d,e,h1,h2⟩=>by rw [e];exact vex _ _ _ _ (vjq a _ _ h1) (vjq b _ _ h2)
 |.slice e,xs,vs,hr=>by
  have:=hr
  obtain⟨a,cap,rfl,_⟩:=hr
  simp only [Ty.cells,RVs,RV]
  exact⟨_,[],rfl,this,rfl⟩
theorem vji:∀(T:Ty) (x:T.D),(T.cells x).length=T.size
 |.int _,_=>rfl
 |.bool,_=>rfl
 |.str,_=>rfl
 |.pair a b,x=>by simp [Ty.cells,Ty.size,vji a,vji b]
 |.slice _,_=>rfl
theorem wfw {I I':Nat→Prop}{e:Ty}{xs:List e.D}{sl:Slot}{v:Value}{lo:Nat}(hreg:RegOk h I μ s sl (.arr e xs))(hI:∀b,I b→I' b)
  (hb:∀k,sl.blk=some k→I' k) (hv:lo≤xs.length∧∃a,v = .slice a (xs.length-lo) (sl.cap-lo)∧(xs.length=lo∨∃k,sl.blk=some k∧a=some ⟨k,lo*e.size,none⟩)):Rep h I' (.slice e) [v] (xs.drop lo):=by
 obtain⟨hlo,a,rfl,ha⟩:=hv
 have hcap:xs.length≤sl.cap:=by
  rcases hreg.2 with⟨_,h0,h1⟩|⟨k,c,el,fr,_,_,_,_,h2,_⟩
  ·rw [h1];exact Nat.zero_le _
  ·exact h2
 refine⟨a,sl.cap-lo,by rw [List.length_drop],by rw [List.length_drop];omega,?_⟩
 rcases ha with ha|⟨k',hk',ha⟩
 ·left
  exact List.drop_eq_nil_of_le (by omega)
 ·rcases hreg.2 with⟨h0,_,_⟩|⟨k,c,el,fr,hk,hc,hf,h1,h2,h3⟩
  ·rw [h0]at hk';cases hk'
  ·rw [hk]at hk';cases hk'
   refine .inr ⟨k',lo*e.size,ha,hb k' hk,fun i hi=>⟨(c.toList.drop ((lo+i)*e.size)).take e.size,⟨c,el,fr,hc,?_⟩,?_⟩⟩
   ·intro j v hj
    rw [List.getElem?_take]at hj
    split at hj
    ·rw [List.getElem?_drop]at hj
     rw [←Nat.add_mul,←Array.getElem?_toList];exact hj
    ·cases hj
   ·have hi':lo+i<xs.length:=by rw [List.length_drop]at hi;omega
    have:=Rep.mono (fun b hb=>⟨hI b hb,rfl⟩) _ _ _ (h3 (lo+i) hi')
    simpa using this
theorem viv:∀(l m:List AV) (n:Nat),getE (l++m) n=if n<l.length then getE l n else getE m (n-l.length)
 |[],m,n=>by simp
 |a::l,m,0=>by simp [getE]
 |a::l,m,n+1=>by
  have:=viv l m n
  simp only [List.cons_append,getE,List.length_cons,Nat.add_lt_add_iff_right,Nat.reduceSubDiff]
  exact this
theorem vpn:∀(l m:List AV) (n:Nat) (c:AV),setE (l++m) n c=if n<l.length then setE l n c++m else l++setE m (n-l.length) c
 |[],m,n,c=>by simp
 |a::l,m,0,c=>by simp [setE]
 |a::l,m,n+1,c=>by
  have:=vpn l m n c
  simp only [List.cons_append,setE,List.length_cons,Nat.add_lt_add_iff_right,Nat.reduceSubDiff]
  rw [this]
  split<;>rfl
theorem vos (s:St):∀(T:Ty) (x:T.D) (rest:List AV),T.take s (T.cells x++rest)=some (x,rest)
 |.int k,x,rest=>by simp [Ty.cells,Ty.take]
 |.bool,x,rest=>by simp [Ty.cells,Ty.take]
 |.str,x,rest=>by simp [Ty.cells,Ty.take]
 |.pair a b,x,rest=>by
  simp only [Ty.cells,Ty.take,List.append_assoc]
  rw [vos s a x.1]
  simp only
  rw [vos s b x.2]
 |.slice e,x,rest=>by
  simp only [Ty.cells,Ty.take,List.cons_append,List.nil_append,vb3]
  simp [vep]
theorem DepEl.lens {e1:Ty}{ys:List e1.D}{v:Value}:∀(T:Ty) (cs:List Value) (x:T.D) (bs:List Nat),DepEl h T cs x bs→bs.Nodup→∀(off:Nat),getE (T.cells x) off = .lst e1 ys→cs[off]? = some v→
  e1.flat=true∧∃sl,OwnV sl ys.length v∧ArrOk h (fun _=>False) sl e1 ys∧(∀b,sl.blk=some b→b∈bs)∧
   ∀(h':Heap) (sl2:Slot) (ys2:List e1.D) (x':T.D) (rest rest':List AV),OwnV sl2 ys2.length v→ArrOk h' (fun _=>False) sl2 e1 ys2→(∀b,sl2.blk=some b→sl.blk=some b)→
    (∀b∈bs,sl.blk≠some b→h'[b]? = h[b]?)→T.take [] (setE (T.cells x) off (.lst e1 ys2)++rest)=some (x',rest')→rest'=rest∧∃bs',DepEl h' T cs x' bs'∧(∀b∈bs',b∈bs)∧bs'.Nodup
 |.int k,cs,x,bs,hr,hd,off,hg,hc=>by
  cases off<;>simp [Ty.cells,getE]at hg
 |.bool,cs,x,bs,hr,hd,off,hg,hc=>by
  cases off<;>simp [Ty.cells,getE]at hg
 |.str,cs,x,bs,hr,hd,off,hg,hc=>by
  cases off<;>simp [Ty.cells,getE]at hg
 |.pair a b,cs,x,bs,⟨c,d,b1,b2,q1,q2,h1,h2⟩,hd,off,hg,hc=>by
  have l1:=vji a x.1
  have l2:=DepEl.length _ _ _ _ h1
  simp only [Ty.cells]at hg
  rw [viv,l1]at hg
  rw [q1,List.getElem?_append,l2]at hc
  subst q2
  obtain⟨d1,d2,d3⟩:=List.nodup_append.1 hd
  split at hg
  ·rename_i hlt
   rw [if_pos hlt]at hc
   obtain⟨g0,sl,g1,g2,g3,g4⟩:=DepEl.lens a c x.1 b1 h1 d1 off hg hc
   refine⟨g0,sl,g1,g2,fun b hb=>List.mem_append_left _ (g3 b hb),?_⟩
   intro h' sl2 ys2 x' rest rest' k1 k2 k3 k4 k5
   simp only [Ty.cells]at k5
   rw [vpn,l1,if_pos hlt]at k5
   simp only [Ty.take,List.append_assoc]at k5
   cases ht:a.take [] (setE (a.cells x.1) off (.lst e1 ys2)++(b.cells x.2++rest))with
   |none=>rw [ht]at k5;cases k5
   |some p=>
    obtain⟨y1,r1⟩:=p
    obtain⟨rfl,bs',m1,m2,m3⟩:=g4 h' sl2 ys2 y1 _ r1 k1 k2 k3 (fun q hq=>k4 q (List.mem_append_left _ hq)) ht
    rw [ht]at k5
    simp only at k5
    rw [vos [] b x.2 rest]at k5
    simp only [Option.some.injEq,Prod.mk.injEq]at k5
    obtain⟨rfl,rfl⟩:=k5
    refine⟨rfl,bs'++b2,⟨c,d,bs',b2,q1,rfl,m1,DepEl.mono _ _ _ _ (fun q hq=>k4 q (List.mem_append_right _ hq) (fun hq2=>d3 q (g3 q hq2) q hq rfl)) h2⟩,?_,?_⟩
    ·intro q hq
     rw [List.mem_append]at hq ⊢
     exact hq.imp (m2 q) id
    ·rw [List.nodup_append]
     exact⟨m3,d2,fun p hp q hq=>d3 p (m2 p hp) q hq⟩
  ·rename_i hlt
   rw [if_neg hlt]at hc
   obtain⟨g0,sl,g1,g2,g3,g4⟩:=DepEl.lens b d x.2 b2 h2 d2 _ hg hc
   refine⟨g0,sl,g1,g2,fun b hb=>List.mem_append_right _ (g3 b hb),?_⟩
   intro h' sl2 ys2 x' rest rest' k1 k2 k3 k4 k5
   simp only [Ty.cells]at k5
   rw [vpn,l1,if_neg hlt]at k5
   simp only [Ty.take,List.append_assoc]at k5
   rw [vos [] a x.1]at k5
   simp only at k5
   cases ht:b.take [] (setE (b.cells x.2) (off-a.size) (.lst e1 ys2)++rest)with
   |none=>rw [ht]at k5;cases k5
   |some p=>
    obtain⟨y1,r1⟩:=p
    obtain⟨rfl,bs',m1,m2,m3⟩:=g4 h' sl2 ys2 y1 _ r1 k1 k2 k3 (fun q hq=>k4 q (List.mem_append_right _ hq)) ht
    rw [ht]at k5
    simp only [Option.some.injEq,Prod.mk.injEq]at k5
    obtain⟨rfl,rfl⟩:=k5
    refine⟨rfl,b1++bs',⟨c,d,b1,bs',q1,rfl,DepEl.mono _ _ _ _ (fun q hq=>k4 q (List.mem_append_left _ hq) (fun hq2=>d3 q hq q (g3 q hq2) rfl)) h1,m1⟩,?_,?_⟩
    ·intro q hq
     rw [List.mem_append]at hq ⊢
     exact hq.imp id (m2 q)
    ·rw [List.nodup_append]
     exact⟨d1,m3,fun p hp q hq=>d3 p hp q (m2 q hq)⟩
 |.slice e,cs,x,bs,⟨hf,u,sl,q1,q2,h1,h2⟩,hd,off,hg,hc=>by
  cases off with
  |succ n=>simp [Ty.cells,getE]at hg
  |zero=>
   simp only [Ty.cells,getE,AV.lst.injEq]at hg
   obtain⟨rfl,hg⟩:=hg
   have hg:=eq_of_heq hg
   subst hg
   rw [q1]at hc
   simp only [List.getElem?_cons_zero,Option.some.injEq]at hc
   subst hc
   refine⟨hf,sl,h1,h2,fun b hb=>by rw [q2,hb];simp,?_⟩
   intro h' sl2 ys2 x' rest rest' k1 k2 k3 k4 k5
   simp only [Ty.cells,setE,Ty.take,List.cons_append,List.nil_append,vb3,dite_true,vep,Option.some.injEq,Prod.mk.injEq]at k5
   obtain⟨rfl,rfl⟩:=k5
   refine⟨rfl,sl2.blk.toList,⟨hf,u,sl2,q1,rfl,k1,k2⟩,?_,?_⟩
   ·intro b hb
    simp only [Option.mem_toList]at hb
    rw [q2,k3 b hb];simp
   ·cases sl2.blk<;>simp
theorem wn1 {i off:Nat}{e1 e0:Ty}{xs:List e1.D}{ys:List e0.D}{v:Value}{sl:Slot}{c:Array Value}{k:Nat}{el:TypeId}{fr:Nat×Nat}{dd:List Nat}(hreg:DepOk h sl e1 xs dd)(hdd:hasD dd i=false)
  (hi:i<xs.length) (hoff:off<e1.size) (hk:sl.blk=some k) (hc:h[k]? = some (.cells c el fr)) (hv:c[i*e1.size+off]? = some v) (hl:getE (e1.cells (xs.getD i e1.zero)) off = .lst e0 ys) :
  e0.flat=true∧∃sl',OwnV sl' ys.length v∧ArrOk h (fun _=>False) sl' e0 ys∧(∀b,sl'.blk=some b→sl.more b)∧
   ∀(h':Heap) (sl2:Slot) (ys2:List e0.D) (x':e1.D),h.size≤h'.size→OwnV sl2 ys2.length v→ArrOk h' (fun _=>False) sl2 e0 ys2→(∀b,sl2.blk=some b→sl'.blk=some b)→
    (∀b,sl.has b→sl'.blk≠some b→h'[b]? = h[b]?)→wis e1 off e0 ys2 (xs.getD i e1.zero)=some x'→DepOk h' sl e1 (xs.set i x') dd∧h'[k]? = h[k]?:=by
 rcases hreg with⟨h0,_⟩|⟨k',c',el',fr',g1,g2,g3,g4,g5,B,g6,g7,g8,g9⟩
 ·rw [h0]at hk;cases hk
 ·rw [g1]at hk;cases hk
  rw [g2]at hc;cases hc
  have hx:xs.getD i e1.zero=xs[i]:=by simp [List.getD,List.getElem?_eq_getElem hi]
  rw [hx]at hl ⊢
  have hcell:((c.toList.drop (i*e1.size)).take e1.size)[off]? = some v:=by
   rw [List.getElem?_take,if_pos hoff,List.getElem?_drop,Array.getElem?_toList];exact hv
  obtain⟨p0,sl',p1,p2,p3,p4⟩:=DepEl.lens _ _ _ _ (g9 i hi hdd) (g7 i hi).1 off hl hcell
  have hm:∀b,sl'.blk=some b→sl.more b:=fun b hb=>(g7 i hi).2 b (p3 b hb)
  refine⟨p0,sl',p1,p2,hm,?_⟩
  intro h' sl2 ys2 x' r0 r1 r2 r3 r4 r5
  have hkk:h'[k]? = h[k]?:=r4 k (.inl g1) (fun hb=>(g6 k (hm k hb)).2 rfl)
  refine⟨.inr ⟨k,c,el,fr,g1,hkk.trans g2,g3,g4,by simpa using g5,?_⟩,hkk⟩
  unfold wis Ty.data at r5
  split at r5
  ·rename_i y ht
   cases r5
   have ht':e1.take [] (setE (e1.cells xs[i]) off (.lst e0 ys2)++[])=some (x',[]):=by simpa using ht
   obtain⟨_,bs',m1,m2,m3⟩:=p4 h' sl2 ys2 x' [] [] r1 r2 r3 (fun b hb hne=>r4 b (.inr ((g7 i hi).2 b hb)) hne) ht'
   have hsub:∀j b,b∈(if j=i then bs' else B j)→b∈B j:=by
    intro j b hb
    split at hb
    ·rename_i e0;subst e0;exact m2 b hb
    ·exact hb
   refine⟨fun j=>if j=i then bs' else B j,fun b hb=>⟨Nat.lt_of_lt_of_le (g6 b hb).1 r0,(g6 b hb).2⟩,?_,?_,?_⟩
   ·intro j hj
    simp only [List.length_set]at hj
    refine⟨?_,fun b hb=>(g7 j hj).2 b (hsub j b hb)⟩
    show (if j=i then bs' else B j).Nodup
    split
    ·exact m3
    ·exact(g7 j hj).1
   ·intro j j' b hj hj' hne hb hb'
    simp only [List.length_set]at hj hj'
    exact g8 j j' b hj hj' hne (hsub j b hb) (hsub j' b hb')
   ·intro j hj hdj
    simp only [List.length_set]at hj
    show DepEl h' e1 _ (xs.set i x')[j] (if j=i then bs' else B j)
    by_cases e0:j=i
    ·subst e0
     simp only [if_true,List.getElem_set_self]
     exact m1
    ·rw [if_neg e0,List.getElem_set_ne (fun h=>e0 h.symm)]
     refine DepEl.mono _ _ _ _ (fun b hb=>r4 b (.inr ((g7 j hj).2 b hb)) fun hb2=>?_) (g9 j hj hdj)
     exact g8 i j b hi hj (fun h=>e0 h.symm) (p3 b hb2) hb
  ·cases r5
theorem voc:∀{T:Ty} {p:Nat},T.isSl p=true→p<T.size
 |.int _,p,hp=>by simp [Ty.isSl]at hp
 |.bool,p,hp=>by simp [Ty.isSl]at hp
 |.str,p,hp=>by simp [Ty.isSl]at hp
 |.pair a b,p,hp=>by
  simp only [Ty.isSl]at hp
  cases h1:Nat.blt p a.size with
  |true=>
   have:p<a.size:=by simpa [Nat.blt_eq]using h1
   simp only [Ty.size];omega
  |false=>
   rw [h1]at hp
   have:=voc (T:=b) hp
   have h2:¬p<a.size:=by
    intro h3
    rw [←Nat.blt_eq,h1]at h3;cases h3
   simp only [Ty.size];omega
 |.slice _,p,hp=>by
  simp only [Ty.isSl]at hp
  rw [Nat.eq_of_beq_eq_true hp]
  exact Nat.one_pos
theorem vsi {e e1:Ty}{off:Nat}{x:e1.D}{xs:List e.D}(h:wsk e e1 off x=some xs):getE (e1.cells x) off = .lst e xs:=by
 unfold wsk at h
 split at h
 ·rename_i e' ys hg
  split at h
  ·rename_i he
   subst he
   simp only [vep,Option.some.injEq]at h
   subst h
   exact hg
  ·cases h
 ·cases h
theorem vl1 {I0:Nat→Prop}(inv:Inv X h μ s)(hI:∀b,Im X h μ s b→I0 b){e:Ty}{a:AV}{xs:List e.D}{v:Value}(hs:vb3 s e a=some xs)
  (hv:RV h (Im X h μ s) μ s a v) (hb:∀r sl b,r∈vc3 [a]→μ[r]? = some sl→(getR s r).isArr=true→sl.has b→I0 b):Rep h I0 (.slice e) [v] xs:=by
 unfold vb3 at hs
 split at hs
 ·rename_i e' ys
  split at hs
  ·rename_i he
   subst he
   simp only [vep,Option.some.injEq]at hs
   subst hs
   simp only [RV]at hv
   exact Rep.mono (fun b hb=>⟨hI b hb,rfl⟩) _ _ _ hv
  ·cases hs
 ·cases hs
  simp only [RV]at hv
  obtain⟨a,rfl⟩:=hv
  exact⟨a,0,rfl,Nat.le_refl _,.inl rfl⟩
 ·rename_i r
  simp only [RV]at hv
  obtain⟨sl,h1,h2⟩:=hv
  have hreg:=inv.reg r sl h1
  have hbb:=fun b hl=>hb r sl b (by simp [vc3]) h1 hl
  cases hg:getR s r with
  |box cs=>rw [hg]at hs;cases hs
  |gone=>rw [hg]at hs;cases hs
  |arr e' ys=>
   rw [hg]at hs h2 hreg
   simp only at hs
   split at hs
   ·rename_i he
    subst he
    simp only [vep,Option.some.injEq]at hs
    subst hs
    exact vic hreg hI (fun b hk=>hbb b (by rw [hg];rfl) (.inl hk)) h2
   ·cases hs
  |dep e' ys m dd=>
   cases dd with
   |cons _ _=>rw [hg]at hs;cases hs
   |nil=>
   rw [hg]at hs h2 hreg
   simp only at hs
   split at hs
   ·rename_i he
    subst he
    simp only [vep,Option.some.injEq]at hs
    subst hs
    exact vsk hreg (fun b hk=>hbb b (by rw [hg];rfl) hk) h2
   ·cases hs
  |frz e' ys=>
   rw [hg]at hs h2
   simp only at hs
   split at hs
   ·rename_i he
    subst he
    simp only [vep,Option.some.injEq]at hs
    subst hs
    exact Rep.mono (fun b hb=>⟨hI b hb,rfl⟩) _ _ _ h2
   ·cases hs
 ·rename_i r lo
  simp only [RV]at hv
  obtain⟨sl,h1,h2⟩:=hv
  have hreg:=inv.reg r sl h1
  have hbb:=fun b hl=>hb r sl b (by simp [vc3]) h1 hl
  cases hg:getR s r with
  |arr e' ys=>
   rw [hg]at hs h2 hreg
   simp only at hs
   split at hs
   ·rename_i he
    subst he
    simp only [vep,Option.some.injEq]at hs
    subst hs
    exact wfw hreg hI (fun b hk=>hbb b (by rw [hg];rfl) (.inl hk)) h2
   ·cases hs
  |box cs=>rw [hg]at hs;cases hs
  |dep _ _ _ _=>rw [hg]at hs;cases hs
  |gone=>rw [hg]at hs;cases hs
  |frz _ _=>rw [hg]at hs;cases hs
 ·rename_i r n i off
  simp only [RV]at hv
  obtain⟨sl,h1,h2⟩:=hv
  have hreg:=inv.reg r sl h1
  have hbb:=fun b hl=>hb r sl b (by simp [vc3]) h1 hl
  cases hg:getR s r with
  |dep e1 ys m dd=>
   rw [hg]at hs h2 hreg
   simp only at hs
   cases hmn:Nat.beq m n with
   |false=>rw [hmn]at hs;cases hs
   |true=>
    rw [hmn]at hs
    simp only [cond_true]at hs
    have hmn:n=m:=(Nat.eq_of_beq_eq_true hmn).symm
    obtain⟨g1,g2,k,c,el,fr,g3,g4,g5,hdd⟩:=h2.2.2 hmn
    obtain⟨p0,sl',p1,p2,p3,_⟩:=wn1 hreg hdd g1 (voc g2) g3 g4 g5 (vsi hs)
    exact vic p2 (fun _ hx=>hx.elim) (fun b hk=>hbb b (by rw [hg];rfl) (.inr (p3 b hk))) p1
  |arr _ _=>rw [hg]at hs;cases hs
  |box cs=>rw [hg]at hs;cases hs
  |gone=>rw [hg]at hs;cases hs
  |frz _ _=>rw [hg]at hs;cases hs
 ·cases hs
theorem vhx:∀(l m:List AV),vc3 (l++m)=vc3 l++vc3 m
 |[],m=>rfl
 |a::l,m=>by cases a<;>simp [vc3,vhx l m]
theorem vup {I0:Nat→Prop}(inv:Inv X h μ s)(hI:∀b,Im X h μ s b→I0 b) :
  ∀(T:Ty) (cs:List AV) (x:T.D) (rest:List AV) (vs:List Value),T.take s cs=some (x,rest)→RVs h (Im X h μ s) μ s cs vs→
   (∀r sl b,r∈vc3 cs→μ[r]? = some sl→(getR s r).isArr=true→sl.has b→I0 b)→
   (∃pre,cs=pre++rest)∧∃v1 v2,vs=v1++v2∧Rep h I0 T v1 x∧RVs h (Im X h μ s) μ s rest v2
 |.int k,[],x,rest,vs,ht,hv,hb=>by simp [Ty.take]at ht
 |.int k,c::cs,x,rest,vs,ht,hv,hb=>by
  cases c<;>simp only [Ty.take]at ht<;>first|(cases ht;done)|skip
  split at ht
  ·rename_i hkk
   cases ht
   subst hkk
   simp only [RVs,RV]at hv
   obtain⟨v,r,rfl,rfl,h4⟩:=hv
   exact⟨⟨[_],rfl⟩,[_],r,rfl,rfl,h4⟩
  ·cases ht
 |.bool,[],x,rest,vs,ht,hv,hb=>by simp [Ty.take]at ht
 |.bool,c::cs,x,rest,vs,ht,hv,hb=>by
  cases c<;>simp only [Ty.take]at ht<;>first|(cases ht;done)|skip
  cases ht
  simp only [RVs,RV]at hv
  obtain⟨v,r,rfl,rfl,h4⟩:=hv
  exact⟨⟨[_],rfl⟩,[_],r,rfl,rfl,h4⟩
 |.str,[],x,rest,vs,ht,hv,hb=>by simp [Ty.take]at ht
 |.str,c::cs,x,rest,vs,ht,hv,hb=>by
  cases c<;>simp only [Ty.take]at ht<;>first|(cases ht;done)|skip
  cases ht
  simp only [RVs,RV]at hv
  obtain⟨v,r,rfl,rfl,h4⟩:=hv
  exact⟨⟨[_],rfl⟩,[_],r,rfl,rfl,h4⟩
 |.pair a b,cs,x,rest,vs,ht,hv,hb=>by
  simp only [Ty.take]at ht
  split at ht
  ·rename_i x1 r1 ha
   split at ht
   ·rename_i y r' hbt
    simp only [Option.some.injEq,Prod.mk.injEq]at ht
    obtain⟨rfl,rfl⟩:=ht
    obtain⟨⟨p1,hp1⟩,v1,v2,rfl,g1,g2⟩:=vup inv hI a cs x1 r1 vs ha hv hb
    obtain⟨⟨p2,hp2⟩,w1,w2,rfl,g3,g4⟩:=vup inv hI b r1 y r' v2 hbt g2 (fun r sl k hr=>hb r sl k (by rw [hp1,vhx];exact List.mem_append_right _ hr))
    exact⟨⟨p1++p2,by rw [hp1,hp2,List.append_assoc]⟩,v1++w1,w2,by simp,⟨v1,w1,rfl,g1,g3⟩,g4⟩
   ·cases ht
  ·cases ht
 |.slice e,[],x,rest,vs,ht,hv,hb=>by simp [Ty.take]at ht
 |.slice e,a::cs,x,rest,vs,ht,hv,hb=>by
  simp only [Ty.take]at ht
  cases hs:vb3 s e a with
  |none=>rw [hs]at ht;cases ht
  |some xs=>
   rw [hs]at ht
   simp only [Option.some.injEq,Prod.mk.injEq]at ht
   obtain⟨rfl,rfl⟩:=ht
   simp only [RVs]at hv
   obtain⟨v,r,rfl,h3,h4⟩:=hv
   refine⟨⟨[a],rfl⟩,[v],r,rfl,?_,h4⟩
   refine vl1 inv hI hs h3 ?_
   intro q sl b hq
   exact hb q sl b (by rw [show a::cs=[a]++cs from rfl,vhx];exact List.mem_append_left _ hq)
theorem vui {I0:Nat→Prop}(inv:Inv X h μ s)(hI:∀b,Im X h μ s b→I0 b){T:Ty}{cs:List AV}{x:T.D}{vs:List Value}(ht:T.data s cs=some x)
  (hv:RVs h (Im X h μ s) μ s cs vs) (hb:∀r sl b,r∈vc3 cs→μ[r]? = some sl→(getR s r).isArr=true→sl.has b→I0 b):Rep h I0 T vs x:=by
 unfold Ty.data at ht
 split at ht
 ·rename_i y he
  cases ht
  obtain⟨_,v1,v2,rfl,h1,h2⟩:=vup inv hI T cs x [] vs he hv hb
  simp only [RVs]at h2
  subst h2
  simpa using h1
 ·cases ht
theorem vto {I0:Nat→Prop}(inv:Inv X h μ s)(hI:∀b,Im X h μ s b→I0 b)(ty:Nat→Option (Bool×Ty)) :
  ∀(ts:List Nat) (vs:List AV) (as:List AV) (l:List Nat) (cvs:List Value),vfb ty s ts vs=some (as,l)→RVs h (Im X h μ s) μ s vs cvs→
   (∀r sl b,r∈l→μ[r]? = some sl→(getR s r).isArr=true→sl.has b→I0 b)→RVs h I0 μ s as cvs
 |[],[],as,l,cvs,hc,hv,hb=>by
  simp only [vfb,Option.some.injEq,Prod.mk.injEq]at hc
  obtain⟨rfl,rfl⟩:=hc
  simpa only [RVs]using hv
 |[],_::_,as,l,cvs,hc,hv,hb=>by simp [vfb]at hc
 |_::_,[],as,l,cvs,hc,hv,hb=>by simp [vfb]at hc
 |t::ts,v::vs,as,l,cvs,hc,hv,hb=>by
  simp only [vfb]at hc
  cases h1:v5b ty s t v with
  |none=>rw [h1]at hc;cases hc
  |some p=>
   obtain⟨a,l1⟩:=p
   rw [h1]at hc
   simp only at hc
   cases h2:vfb ty s ts vs with
   |none=>rw [h2]at hc;cases hc
   |some q=>
    obtain⟨as',l2⟩:=q
    rw [h2]at hc
    simp only [Option.some.injEq,Prod.mk.injEq]at hc
    obtain⟨rfl,rfl⟩:=hc
    simp only [RVs]at hv ⊢
    obtain⟨cv,cr,rfl,g1,g2⟩:=hv
    refine⟨cv,cr,rfl,?_,vto inv hI ty ts vs as' l2 cr h2 g2 (fun r sl b hr=>hb r sl b (by simp [hr]))⟩
    have hmono:RV h I0 μ s v cv:=RV.mono (fun b hb=>⟨hI b hb,rfl⟩) (by
     intro a v ha hv
     cases a with
     |own r=>
      simp only [RV]at hv ⊢
      obtain⟨sl,e1,e2⟩:=hv
      refine⟨sl,e1,?_⟩
      revert e2
      cases getR s r with
      |box _=>exact id
      |arr _ _=>exact id
      |dep _ _ _ _=>exact id
      |frz e xs=>exact Rep.mono (fun b hb=>⟨hI b hb,rfl⟩) _ _ _
      |gone=>exact id
     |bp r off=>simpa only [RV]using hv
     |ep r i off=>simpa only [RV]using hv
     |win r lo=>simpa only [RV]using hv
     |dw r n i off=>simpa only [RV]using hv
     |_=>cases ha) v cv g1
    unfold v5b at h1
    split at h1
    ·simp only [Option.some.injEq,Prod.mk.injEq]at h1
     obtain⟨rfl,rfl⟩:=h1
     exact hmono
    ·rename_i T _
     split at h1
     ·rename_i cs
      split at h1
      ·rename_i x hx
       simp only [Option.some.injEq,Prod.mk.injEq]at h1
       obtain⟨rfl,rfl⟩:=h1
       simp only [RV]at g1 ⊢
       obtain⟨ws,rfl,hws⟩:=g1
       exact⟨ws,rfl,vjq T x _ (vui inv hI hx hws (fun r sl b hr=>hb r sl b (by simp [hr])))⟩
      ·cases h1
     ·cases h1
    ·rename_i T _
     split at h1
     ·cases h1
     ·split at h1
      ·rename_i x hx
       split at h1
       ·rename_i c hcl
        simp only [Option.some.injEq,Prod.mk.injEq]at h1
        obtain⟨rfl,rfl⟩:=h1
        have h5:=vjq (μ:=μ) (s:=s) T x [cv] (vui inv hI hx (by simp only [RVs];exact⟨cv,[],rfl,g1,rfl⟩) (fun r sl b hr=>hb r sl b (by simp [hr])))
        rw [hcl]at h5
        simp only [RVs]at h5
        obtain⟨u,r,e,h6,_⟩:=h5
        cases e
        exact h6
       ·cases h1
      ·cases h1
theorem RVs.monoI {I I0:Nat→Prop}(hI:∀b,I b→I0 b)(as:List AV)(vs:List Value)(hv:RVs h I μ s as vs):RVs h I0 μ s as vs:=
 RVs.mono (fun b hb=>⟨hI b hb,rfl⟩) (by
  intro a v ha hv
  cases a with
  |own r=>
   simp only [RV]at hv ⊢
   obtain⟨sl,e1,e2⟩:=hv
   refine⟨sl,e1,?_⟩
   revert e2
   cases getR s r with
   |box _=>exact id
   |arr _ _=>exact id
   |dep _ _ _ _=>exact id
   |frz e xs=>exact Rep.mono (fun b hb=>⟨hI b hb,rfl⟩) _ _ _
   |gone=>exact id
  |bp r off=>simpa only [RV]using hv
  |ep r i off=>simpa only [RV]using hv
  |win r lo=>simpa only [RV]using hv
  |dw r n i off=>simpa only [RV]using hv
  |_=>cases ha) as vs hv
end
theorem wc6 {h h':Heap}{I I':Nat→Prop}{μ μ':List Slot}{s s':St}:∀{a:AV} {v:Value},a.plain=true→RV h I μ s a v→RV h' I' μ' s' a v:=by
 intro a v ha hv
 cases a<;>first|(simp only [RV]at hv ⊢;exact hv)|(cases ha)
theorem v54 {h h':Heap}{I I':Nat→Prop}{μ μ':List Slot}{s s':St}:∀{as:List AV} {vs:List Value},vdt as=true→RVs h I μ s as vs→RVs h' I' μ' s' as vs
 |[],vs,_,hv=>by simpa only [RVs]using hv
 |a::as,vs,ha,hv=>by
  simp only [vdt,Bool.and_eq_true]at ha
  simp only [RVs]at hv ⊢
  obtain⟨u,r,e,h1,h2⟩:=hv
  exact⟨u,r,e,wc6 ha.1 h1,v54 ha.2 h2⟩
theorem wgy {s:St}{r:Nat}(w:List Nat)(hr:(getR s r).live=true):r∈vgf s 64 (r::w) []:=by
 have key:∀w',r∈vgf s 63 w' ([]++[r]):=fun w'=>by
  obtain⟨t,ht⟩:=viw s 63 w' ([]++[r])
  rw [ht];simp
 show r∈vgf s (63+1) (r::w) []
 simp only [vgf,idx]
 revert hr
 cases getR s r with
 |box cs=>exact fun _=>key _
 |arr _ _=>exact fun _=>key _
 |dep _ _ _ _=>exact fun _=>key _
 |frz _ _=>intro hr;cases hr
 |gone=>intro hr;cases hr
theorem v7b {P:Program}{G:Glob}{f r n i off:Nat}{rest:List AV}{s:St}{k:K1}{res:Res}(hc:vab P f (G.call f))(hk:wde G f r n i off rest s k=some res) :
  ∃v s',k v s'=some res∧∀X μ (w:World) (cargs:List Value),Inv X w.heap μ s→RVs w.heap (Im X w.heap μ s) μ s (.dw r n i off::rest) cargs→
   Calls P f cargs.toArray w (ww4 X w μ s (vai (.dw r n i off::rest) s) v s'):=by
 unfold wde at hk
 split at hk
 ·rename_i e xs m dd hg
  cases hb:(Nat.beq m n&&vdt rest)with
  |false=>rw [hb]at hk;cases hk
  |true=>
   rw [hb]at hk
   simp only [cond_true]at hk
   simp only [Bool.and_eq_true]at hb
   have hmn:n=m:=(Nat.eq_of_beq_eq_true hb.1).symm
   split at hk
   ·rename_i e1 ys hcell
    obtain⟨v,sub,hk1,hcalls⟩:=hc _ _ _ _ hk
    split at hk1
    ·rename_i e2 ys2
     split at hk1
     ·rename_i hee
      subst hee
      simp only [vep]at hk1
      split at hk1
      ·rename_i x' hput
       cases hpl:v.plain with
       |false=>rw [hpl]at hk1;cases hk1
       |true=>
        rw [hpl]at hk1
        refine⟨_,_,hk1,?_⟩
        intro X μ w cargs inv hargs
        simp only [RVs]at hargs
        obtain⟨cv0,crest,rfl,hd,hrest⟩:=hargs
        simp only [RV]at hd
        obtain⟨sl,hsl,hd⟩:=hd
        have hreg:=inv.reg r sl hsl
        rw [hg]at hd hreg
        have hlive:(getR s r).live=true:=by rw [hg];rfl
        obtain⟨q1,q2,k0,c,el,fr,q3,q4,q5,hdd⟩:=hd.2.2 hmn
        obtain⟨p0,sl',p1,p2,p3,p4⟩:=wn1 hreg hdd q1 (voc q2) q3 q4 q5 hcell
        let X':Nat→Prop:=fun b=>(X b∨∃q sq,μ[q]? = some sq∧(getR s q).live=true∧sq.has b)∧¬sl'.has b
        have hhas:∀b,sl'.has b→sl'.blk=some b:=fun b hb=>Slot.has_of p2.1 hb
        have i0:Inv X' w.heap [sl'] [.arr e2 ys]:=by
         refine⟨rfl,?_,?_,?_,?_⟩
         ·intro j x hj
          cases j with
          |zero=>simp at hj;subst hj;exact p2.mono (fun _ hx=>hx.elim) (fun _ _=>rfl)
          |succ j=>simp at hj
         ·intro j j' x x' b hne hj hj'
          have e0:j=0:=by
           cases j with
           |zero=>rfl
           |succ j=>simp at hj
          have e1:j'=0:=by
           cases j' with
           |zero=>rfl
           |succ j=>simp at hj'
          exact absurd (e0.trans e1.symm) hne
         ·intro j x b hj _ hb hx
          cases j with
          |zero=>simp at hj;subst hj;exact hx.2 hb
          |succ j=>simp at hj
         ·rintro b ⟨hx|⟨q,sq,g1,g2,g3⟩,_⟩
          ·exact inv.xlt b hx
          ·exact inv.blk_lt g1 g2 g3
        have hown:∀I,RV w.heap I [sl'] [.arr e2 ys] (.own 0) cv0:=by
         intro I
         simp only [RV]
         exact⟨sl',rfl,p1⟩
        refine(hcalls X' [sl'] w (cv0::crest) i0 (by simp only [RVs];exact⟨cv0,crest,rfl,hown _,v54 hb.2 hrest⟩)).mono ?_
        rintro en w' ⟨cv,μ1,rfl,i1,hv,e1,hcalm⟩
        have hown2:=e1.rv _ _ (hown _)
        simp only [RV]at hown2
        obtain⟨sl1,hsl1,hown2⟩:=hown2
        have hreg1:=i1.reg 0 sl1 hsl1
        have hown2:OwnV sl1 ys2.length cv0:=hown2
        have hreg1:ArrOk w'.heap (Im X' w'.heap μ1 [.arr e2 ys2]) sl1 e2 ys2:=hreg1
        have hsame:∀b,b<w.heap.size→sl'.blk≠some b→w'.heap[b]? = w.heap[b]?:=by
         intro b hb hne
         refine e1.same b hb ?_
         intro j x hj _ hb'
         cases j with
         |zero=>simp at hj;subst hj;exact hne (hhas b hb')
         |succ j=>simp at hj
        have hflat:∀{sl2:Slot},ArrOk w'.heap (Im X' w'.heap μ1 [.arr e2 ys2]) sl2 e2 ys2→ArrOk w'.heap (fun _=>False) sl2 e2 ys2:=by
         rintro sl2 ⟨z1,z2|⟨k2,c2,el2,fr2,z2,z3,z4,z5,z6,z7⟩⟩
         ·exact⟨z1,.inl z2⟩
         ·exact⟨z1,.inr ⟨k2,c2,el2,fr2,z2,z3,z4,z5,z6,fun i hi=>Rep.flat _ p0 _ _ (z7 i hi)⟩⟩
        have hnew:∃sl2,OwnV sl2 ys2.length cv0∧ArrOk w'.heap (fun _=>False) sl2 e2 ys2∧∀b,sl2.blk=some b→sl'.blk=some b:=by
         obtain⟨a1,z1,z2⟩:=p1
         obtain⟨a2,z3,z4⟩:=hown2
         rw [z1]at z3
         simp only [Value.slice.injEq]at z3
         obtain⟨rfl,z5,z6⟩:=z3
         by_cases hz:sl1.cap=0
         ·have hy:ys2=[]:=by
           rcases hreg1.2 with⟨_,_,z8⟩|⟨_,_,_,_,_,_,_,_,z8,_⟩
           ·exact z8
           ·have:ys2.length=0:=by omega
            simpa using this
          subst hy
          refine⟨{ blk:=none,cap:=0 },⟨a1,?_,.inl rfl⟩,⟨fun _ hx=>hx,.inl ⟨rfl,rfl,rfl⟩⟩,fun b hb=>by cases hb⟩
          rw [z1,z5,z6,hz]
         ·obtain⟨k2,z4,z7⟩:=z4.resolve_left hz
          obtain⟨k3,z2,z8⟩:=z2.resolve_left (by rw [z6];exact hz)
          refine⟨sl1,⟨a1,by rw [z1,z5,z6],.inr ⟨k2,z4,z7⟩⟩,hflat hreg1,?_⟩
          intro b hb
          rw [z7]at z8
          simp only [Option.some.injEq,Addr.mk.injEq,and_true]at z8
          rw [z4]at hb;cases hb
          rw [z2,z8]
        obtain⟨sl2,y1,y2,y3⟩:=hnew
        have hhas2:∀b,sl.has b→sl'.blk≠some b→w'.heap[b]? = w.heap[b]?:=fun b hb hne=>hsame b (inv.blk_lt hsl hlive hb) hne
        obtain⟨hdep,hkk⟩:=p4 w'.heap sl2 ys2 x' e1.size y1 y2 y3 hhas2 hput
        have hlt:=inv.lt hsl
        have hself:getR (setR s r (.dep e (xs.set i x') m dd)) r = .dep e (xs.set i x') m dd:=by rw [vbg s r r _ hlt,if_pos rfl]
        have hstep:Inv X w'.heap μ (setR s r (.dep e (xs.set i x') m dd))∧Ext X w.heap μ s w'.heap μ (setR s r (.dep e (xs.set i x') m dd)):=by
         refine vgo inv [r] e1.size (by rw [vap];exact inv.len) (by rw [vap];exact Nat.le_refl _) (fun j _ hj=>⟨rfl,vsf inv _ hsl hj⟩) ?_ ?_ ?_ ?_ ?_
         ·intro b hb hno
          refine hsame b hb fun h0=>hno ⟨r,by simp,sl,hsl,hlive,.inr (p3 b h0)⟩
         ·intro j x b h1 h2 _ hb
          have:=J1 inv.len h1 h2
          subst this
          exact .inr ⟨j,by simp,x,h2,hlive,hb⟩
         ·intro j j' x x' b hne h1 h1' h2 h2'
          exact absurd ((J1 inv.len h1 h2).trans (J1 inv.len h1' h2').symm) hne
         ·intro him q hq a v ha har hv
          have:q=r:=by simpa using hq
          subst this
          cases a with
          |own j=>
           simp only [AV.refs,List.cons.injEq,and_true]at har
           subst har
           simp only [RV]at hv ⊢
           obtain⟨x,h1,h2⟩:=hv
           refine⟨x,h1,?_⟩
           rw [hself]
           rw [hg]at h2
           simpa using h2
          |bp j off=>
           simp only [AV.refs,List.cons.injEq,and_true]at har
           subst har
           simp only [RV]at hv ⊢
           obtain⟨x,h1,h2⟩:=hv
           rw [hg]at h2;exact h2.elim
          |ep j i off=>
           simp only [AV.refs,List.cons.injEq,and_true]at har
           subst har
           simp only [RV]at hv ⊢
           obtain⟨x,h1,h2⟩:=hv
           refine⟨x,h1,?_⟩
           rw [hself]
           rw [hg]at h2
           simpa using h2
          |win j lo=>
           simp only [AV.refs,List.cons.injEq,and_true]at har
           subst har
           simp only [RV]at hv ⊢
           obtain⟨x,h1,h2⟩:=hv
           refine⟨x,h1,?_⟩
           rw [hself]
           rw [hg]at h2
           simpa using h2
          |dw j n' i' off'=>
           simp only [AV.refs,List.cons.injEq,and_true]at har
           subst har
           simp only [RV]at hv ⊢
           obtain⟨x,h1,h2⟩:=hv
           refine⟨x,h1,?_⟩
           rw [hself]
           rw [hg]at h2
           rw [hsl]at h1;cases h1
           refine⟨h2.1,h2.2.1,fun hn=>?_⟩
           obtain⟨z1,z2,k9,c9,el9,fr9,z3,z4,z5,z6⟩:=h2.2.2 hn
           rw [q3]at z3;cases z3
           exact⟨by simpa using z1,z2,k0,c9,el9,fr9,q3,hkk.trans z4,z5,z6⟩
          |_=>cases ha
         ·intro him hrv j x h1 h2
          have:=J1 inv.len h1 h2
          subst this
          rw [hself]
          rw [hsl]at h2;cases h2
          exact hdep
        refine⟨cv,μ,rfl,hstep.1,wc6 hpl hv,hstep.2,hcalm,?_,fun _ _ _=>rfl⟩
        intro b hb hno
        refine hsame b hb fun h0=>hno r ?_ sl hsl (.inr (p3 b h0))
        exact wgy _ hlive
      ·cases hk1
     ·cases hk1
    ·cases hk1
   ·cases hk
 ·cases hk
def vl7 (G:Glob)(f:Nat)(ts:List Nat)(args caps:List AV)(s:St):List Nat:=
 bif G.inPlace f then vai (args++caps) s else
 match vfb G.ty s ts args with
 |none=>[]
 |some (as,_)=>vai (as++caps) s
theorem vzl {P:Program}{G:Glob}{f:Nat}{ts:List Nat}{args caps:List AV}{s:St}{k:K1}{r:Res}
  (hc:vab P f (G.call f)) (hk:vrz G f ts args caps s k=some r) :
  ∃v s',k v s'=some r∧∀X μ (w:World) (cargs ccaps:List Value),Inv X w.heap μ s→RVs w.heap (Im X w.heap μ s) μ s args cargs→
   RVs w.heap (Im X w.heap μ s) μ s caps ccaps→Calls P f (cargs++ccaps).toArray w (ww4 X w μ s (vl7 G f ts args caps s) v s'):=by
 have hI0:∀{X:Nat→Prop} {h:Heap} {μ:List Slot} (inv:Inv X h μ s) (ids seen:List Nat) (b:Nat),Im X h μ s b→Im (vlq X μ s ids seen) h (slots μ ids) (vb4 s ids ids) b:=by
  intro X h μ inv ids seen b hb
  refine⟨hb.1,?_,Free.slots inv ids hb.2.2⟩
  rintro(hx|⟨q,sl,h1,h2,h3,_,_⟩)
  ·exact hb.2.1 hx
  ·exact hb.2.2 q sl h1 h2 h3
 unfold vrz at hk
 cases hm:G.inPlace f with
 |true=>
  rw [hm]at hk
  simp only [cond_true]at hk
  have hh:vl7 G f ts args caps s=vai (args++caps) s:=by unfold vl7;rw [hm];rfl
  rw [hh]
  split at hk
  ·rename_i q n i off rest
   obtain⟨v,s',h1,h2⟩:=v7b hc hk
   refine⟨v,s',h1,fun X μ w cargs ccaps inv hargs hcaps=>?_⟩
   simp only [RVs]at hcaps
   subst hcaps
   simpa using h2 X μ w cargs inv hargs
  ·obtain⟨_,v,s',h1,h2⟩:=vpf hc (by simp) hk
   refine⟨v,s',h1,fun X μ w cargs ccaps inv hargs hcaps=>?_⟩
   exact h2 X μ w (cargs++ccaps) inv (RVs.monoI (hI0 inv _ _) _ _ (vex _ _ _ _ hargs hcaps))
 |false=>
  rw [hm]at hk
  simp only [cond_false]at hk
  cases hca:vfb G.ty s ts args with
  |none=>rw [hca]at hk;cases hk
  |some p=>
   obtain⟨as,seen⟩:=p
   rw [hca]at hk
   simp only at hk
   obtain⟨hns,v,s',h1,h2⟩:=vpf hc (vmf s seen) hk
   refine⟨v,s',h1,fun X μ w cargs ccaps inv hargs hcaps=>?_⟩
   have hh:vl7 G f ts args caps s=vai (as++caps) s:=by unfold vl7;rw [hm];simp only [cond_false,hca]
   rw [hh]
   refine h2 X μ w (cargs++ccaps) inv (vex _ _ _ _ ?_ (RVs.monoI (hI0 inv _ _) _ _ hcaps))
   refine vto inv (hI0 inv _ _) G.ty ts args as seen cargs hca hargs ?_
   intro q sl b hq hsl harr hb
   have hne:q∉vai (as++caps) s:=hns q (vpy s seen q hq harr)
   have hl:(getR s q).live=true:=Rg.isArr_live harr
   refine⟨inv.blk_lt hsl hl hb,?_,?_⟩
   ·rintro(hx|⟨q',sl',g1,g2,g3,g4,g5⟩)
    ·exact inv.notX q sl b hsl hl hb hx
    ·by_cases e:q'=q
     ·subst e;exact g5 (vpy s seen q' hq harr)
     ·exact inv.dis q' q sl' sl b e g1 hsl g2 hl g3 hb
   ·intro j sl' hj hl' hb'
    obtain⟨q',g1,g2,g3⟩:=vfz inv hj hl'
    by_cases e:q'=q
    ·subst e;exact hne (List.mem_of_getElem? g1)
    ·exact inv.dis q' q sl' sl b e g2 hsl g3 hl hb' hb
end Go.VE
