/- The plain laws behind FnExactSameFrom. -/
import Derived.Test.YtcccpkohlkfhoaaSameFromL
import Derived.Test.YtcccpkohlkfhoaaU28
/- Plain laws: keys,ranges,writes,transactions,who is ahead of whom. -/
namespace Go.VE
noncomputable section
set_option linter.unusedVariables false
set_option linter.unusedSimpArgs false
set_option maxRecDepth 100000
def vbq (r:tRange.D)(key:ByteArray):Bool:=!(vad key r.1)&&(vad key r.2||vbm key r.2)
theorem v1j (r:tRange.D) (key) (k):vn0 r key k=k (vbq r key):=by
 rw [vv4];unfold vtm vbq;cases vad key r.1<;>rfl
theorem v1y (r:tRange.D) (key) (k):vmr r key k=k (vbq r key):=by
 rw [vw6];unfold vub vbq;cases vad key r.1<;>rfl
end
end Go.VE
/- Plain laws: one of a list that passes a test;what is seen;the oldest. -/
namespace Go.VE
noncomputable section
set_option linter.unusedVariables false
set_option linter.unusedSimpArgs false
set_option maxRecDepth 100000
def zV:tVersion.D:=Ty.zero tVersion
def vbw (u0:List tVersion.D)(key:ByteArray)(snap:Int):List tVersion.D→Int→Nat→Int
 |[],s,_=>s
 |y::l,s,i=>bif vbm y.1 key&&(decide (y.2.2.2≤snap)&&(decide (s<0)||decide (y.2.2.2>(rd zV u0 s).2.2.2)))then vbw u0 key snap l (i:Int) (i+1)else vbw u0 key snap l s (i+1)
def vch (xs:List tVersion.D)(key:ByteArray)(snap:Int):Int:=vbw xs key snap xs (-1) 0
theorem vji {u0 u1 u2} {u4}:∀(l:List tVersion.D)(s:Int)(i:Nat),u0.drop i=l→(s<0∨0≤s∧s<(u0.length:Int))→
  ∃j:Int,(∀k,vde u0 u1 u2 u4 l s i k=k (vbw u0 u1 u2 l s i,j))∧(vbw u0 u1 u2 l s i<0∨0≤vbw u0 u1 u2 l s i∧vbw u0 u1 u2 l s i<(u0.length:Int))
 |[],s,i,_,hs=>⟨_,fun k=>rfl,hs⟩
 |y::l,s,i,h,hs=>by
  have hlt:=vb2 h
  obtain⟨j1,hj1,b1⟩:=vji (u0:=u0) (u1:=u1) (u2:=u2) (u4:=u4) l s (i+1) (vai h) hs
  obtain⟨j2,hj2,b2⟩:=vji (u0:=u0) (u1:=u1) (u2:=u2) (u4:=u4) l (i:Int) (i+1) (vai h) (.inr (by omega))
  have hz:(Ty.zero tVersion)=zV:=rfl
  simp only [vde,hj1,hj2,vbw,hz]
  cases vbm y.1 u1
  ·exact⟨j1,fun k=>rfl,b1⟩
  ·cases decide (y.2.2.2≤u2)
   ·exact⟨j1,fun k=>rfl,b1⟩
   ·by_cases c:s<0
    ·simp only [c,decide_true,cond_true,Bool.true_or,Bool.and_self];exact⟨j2,fun k=>rfl,b2⟩
    ·simp only [c,decide_false,cond_true,cond_false,Bool.false_or,Bool.true_and]
     simp only [if_pos (show 0≤s∧s<(u0.length:Int) by omega)]
     cases decide (y.2.2.2>(rd zV u0 s).2.2.2)
     ·exact⟨j1,fun k=>rfl,b1⟩
     ·exact⟨j2,fun k=>rfl,b2⟩
theorem v18 {xs:List tVersion.D}(hl:xs.length≤1048576) (key) (snap) (k):vn2 xs key snap k=k (vch xs key snap):=by
 rw [v3f (by omega)]
 unfold vyc vch
 obtain⟨j,hj,_⟩:=vji (u0:=xs) (u1:=key) (u2:=snap) (u4:=xs) xs (-1) 0 rfl (.inl (by omega))
 rw [hj]
theorem vjx {u0 u1 u2}  : ∀(l:List tVersion.D)(s:Int)(i:Nat),u0.drop i=l→(s<0∨0≤s∧s<(u0.length:Int))→
  ∃j:Int,(∀k,vdf u0 u1 u2  l s i k=k (vbw u0 u1 u2 l s i,j))∧(vbw u0 u1 u2 l s i<0∨0≤vbw u0 u1 u2 l s i∧vbw u0 u1 u2 l s i<(u0.length:Int))
 |[],s,i,_,hs=>⟨_,fun k=>rfl,hs⟩
 |y::l,s,i,h,hs=>by
  have hlt:=vb2 h
  obtain⟨j1,hj1,b1⟩:=vjx (u0:=u0) (u1:=u1) (u2:=u2)  l s (i+1) (vai h) hs
  obtain⟨j2,hj2,b2⟩:=vjx (u0:=u0) (u1:=u1) (u2:=u2)  l (i:Int) (i+1) (vai h) (.inr (by omega))
  have hz:(Ty.zero tVersion)=zV:=rfl
  simp only [vdf,hj1,hj2,vbw,hz]
  cases vbm y.1 u1
  ·exact⟨j1,fun k=>rfl,b1⟩
  ·cases decide (y.2.2.2≤u2)
   ·exact⟨j1,fun k=>rfl,b1⟩
   ·by_cases c:s<0
    ·simp only [c,decide_true,cond_true,Bool.true_or,Bool.and_self];exact⟨j2,fun k=>rfl,b2⟩
    ·simp only [c,decide_false,cond_true,cond_false,Bool.false_or,Bool.true_and]
     simp only [if_pos (show 0≤s∧s<(u0.length:Int) by omega)]
     cases decide (y.2.2.2>(rd zV u0 s).2.2.2)
     ·exact⟨j1,fun k=>rfl,b1⟩
     ·exact⟨j2,fun k=>rfl,b2⟩
theorem v1x {xs:List tVersion.D}(hl:xs.length≤1048576) (key) (snap) (k):vm7 xs key snap k=k (vch xs key snap):=by
 rw [v3d (by omega)]
 unfold vwx vch
 obtain⟨j,hj,_⟩:=vjx (u0:=xs) (u1:=key) (u2:=snap)  xs (-1) 0 rfl (.inl (by omega))
 rw [hj]
theorem vfn {u0:List tVersion.D}{key:ByteArray}{snap:Int}:∀(l:List tVersion.D)(s:Int)(i:Nat),i+l.length≤u0.length→(s<0∨0≤s∧s<(u0.length:Int))→(vbw u0 key snap l s i<0∨0≤vbw u0 key snap l s i∧vbw u0 key snap l s i<(u0.length:Int))
 |[],s,i,_,hs=>hs
 |y::l,s,i,h,hs=>by
  simp only [List.length_cons]at h
  simp only [vbw]
  cases (vbm y.1 key&&(decide (y.2.2.2≤snap)&&(decide (s<0)||decide (y.2.2.2>(rd zV u0 s).2.2.2))))
  ·exact vfn l s (i+1) (by omega) hs
  ·exact vfn l (i:Int) (i+1) (by omega) (.inr (by omega))
theorem vi5 (xs:List tVersion.D)(key:ByteArray)(snap:Int):vch xs key snap<0∨0≤vch xs key snap∧vch xs key snap<(xs.length:Int):=
 vfn xs (-1) 0 (by omega) (.inl (by omega))
def vcc (xs:List tVersion.D)(key:ByteArray)(snap:Int):ByteArray×Bool:=
 bif decide (vch xs key snap<0)then(⟨#[]⟩,false)else bif (rd zV xs (vch xs key snap)).2.2.1 then(⟨#[]⟩,false)else((rd zV xs (vch xs key snap)).2.1,true)
theorem vry {xs:List tVersion.D}(hl:xs.length≤1048576) (key) (snap) (k):vrf xs key snap k=k (vcc xs key snap):=by
 have hb:=vi5 xs key snap
 have hz:(Ty.zero tVersion)=zV:=rfl
 rw [vw2]
 unfold vul vcc
 simp only [v18 hl,hz]
 by_cases c:vch xs key snap<0
 ·simp only [c,decide_true,cond_true]
 ·simp only [c,decide_false,cond_false]
  rw [if_pos (by omega)]
  cases (rd zV xs (vch xs key snap)).2.2.1
  ·simp only [cond_false];rw [if_pos (by omega)]
  ·rfl
theorem vxt {xs:List tVersion.D}(hl:xs.length≤1048576) (key) (snap) (k):vq2 xs key snap k=k (vcc xs key snap):=by
 have hb:=vi5 xs key snap
 have hz:(Ty.zero tVersion)=zV:=rfl
 rw [vv0]
 unfold vt5 vcc
 simp only [v1x hl,hz]
 by_cases c:vch xs key snap<0
 ·simp only [c,decide_true,cond_true]
 ·simp only [c,decide_false,cond_false]
  rw [if_pos (by omega)]
  cases (rd zV xs (vch xs key snap)).2.2.1
  ·simp only [cond_false];rw [if_pos (by omega)]
  ·rfl
end
end Go.VE
/- Plain laws: where a name or an Id stands;a transaction's text. -/
namespace Go.VE
noncomputable section
set_option linter.unusedVariables false
set_option linter.unusedSimpArgs false
set_option maxRecDepth 100000
theorem vp3 {a b:ByteArray}(h:a.data.toList=b.data.toList):a=b:=by
 cases a;cases b;congr 1;exact Array.toList_inj.mp h
theorem vjs {a b:ByteArray}(h:vbm a b=true):a=b:=by
 rw [vhd,beq_iff_eq,ByteArray.toList_eq,ByteArray.toList_eq]at h
 exact vp3 h
end
end Go.VE
/- Plain laws: keys in order;what a scan sees. -/
namespace Go.VE
noncomputable section
set_option linter.unusedVariables false
set_option linter.unusedSimpArgs false
set_option maxRecDepth 100000
theorem vg7 (x y:ByteArray):vad x y=decide (x.data.toList<y.data.toList):=by
 rw [vdp,ByteArray.toList_eq,ByteArray.toList_eq]
 exact Go.Proofs.bytesLess_eq _ _
theorem vd6 (x:ByteArray):vad x x=false:=by
 rw [vg7];exact decide_eq_false (List.lt_irrefl _)
theorem vh8 {x y z:ByteArray}(h1:vad x y=true)(h2:vad y z=true):vad x z=true:=by
 rw [vg7]at *
 exact decide_eq_true (List.lt_trans (of_decide_eq_true h1) (of_decide_eq_true h2))
theorem vrz {x y:ByteArray}(h:vad x y=true):vad y x=false:=by
 cases h2:vad y x
 ·rfl
 ·have:=vh8 h h2
  rw [vd6]at this
  cases this
theorem vj3 {x y:ByteArray}(h1:vad x y=false)(h2:vad y x=false):x=y:=by
 rw [vg7]at *
 have a:=List.not_lt.1 (of_decide_eq_false h1)
 have b:=List.not_lt.1 (of_decide_eq_false h2)
 exact vp3 (List.le_antisymm b a)
def Asc (l:List ByteArray):Prop:=l.Pairwise fun a b=>vad a b=true
theorem vwm:∀{l m:List ByteArray},Asc l→Asc m→(∀x,x∈l↔x∈m)→l=m
 |[],[],_,_,_=>rfl
 |[],b::m,_,_,h=>by have:=(h b).2 (by simp);cases this
 |a::l,[],_,_,h=>by have:=(h a).1 (by simp);cases this
 |a::l,b::m,hl,hm,h=>by
  obtain⟨h1,h2⟩:=List.pairwise_cons.1 hl
  obtain⟨h3,h4⟩:=List.pairwise_cons.1 hm
  have hab:a=b:=by
   rcases List.mem_cons.1 ((h a).1 (by simp))with e|e
   ·exact e
   ·rcases List.mem_cons.1 ((h b).2 (by simp))with e2|e2
    ·exact e2.symm
    ·have x1:=h3 a e
     have x2:=h1 b e2
     rw [vrz x1]at x2
     cases x2
  subst hab
  rw [vwm h2 h4 (fun x=>⟨fun hx=>by
   rcases List.mem_cons.1 ((h x).1 (by simp [hx]))with e|e
   ·subst e;have:=h1 x hx;rw [vd6]at this;cases this
   ·exact e,fun hx=>by
   rcases List.mem_cons.1 ((h x).2 (by simp [hx]))with e|e
   ·subst e;have:=h3 x hx;rw [vd6]at this;cases this
   ·exact e⟩)]
def ddT (p:ByteArray):List ByteArray→List ByteArray
 |[]=>[]
 |y::l=>bif vbm y p then ddT y l else y::ddT y l
def dd:List ByteArray→List ByteArray
 |[]=>[]
 |a::l=>a::ddT a l
theorem vxm:∀(l:List ByteArray)(p:ByteArray),(p::l).Pairwise (fun a b=>vad b a=false)→Asc (p::ddT p l)∧∀x,x∈p::ddT p l↔x∈p::l
 |[],p,_=>⟨List.pairwise_singleton _ _,fun x=>Iff.rfl⟩
 |y::l,p,h=>by
  obtain⟨h1,h2⟩:=List.pairwise_cons.1 h
  obtain⟨i1,i2⟩:=vxm l y h2
  simp only [ddT]
  cases he:vbm y p
  ·have hne:y≠p:=fun e=>by rw [e,vjj]at he;cases he
   have hlt:vad p y=true:=by
    cases hh:vad p y
    ·exact absurd (vj3 (h1 y (by simp)) hh) hne
    ·rfl
   refine⟨List.pairwise_cons.2 ⟨fun x hx=>?_,i1⟩,fun x=>?_⟩
   ·rcases List.mem_cons.1 hx with e|e
    ·rw [e];exact hlt
    ·exact vh8 hlt ((List.pairwise_cons.1 i1).1 x e)
   ·simp only [cond_false,List.mem_cons]
    have:=i2 x
    simp only [List.mem_cons]at this
    rw [this]
  ·have e:=vjs he
   subst e
   refine⟨i1,fun x=>?_⟩
   simp only [cond_true]
   rw [i2 x]
   simp
theorem v0o {l:List ByteArray}(h:l.Pairwise fun a b=>vad b a=false):Asc (dd l)∧∀x,x∈dd l↔x∈l:=by
 cases l with
 |nil=>exact⟨List.Pairwise.nil,fun x=>Iff.rfl⟩
 |cons a l=>exact vxm l a h
theorem vp7 (xs:List ByteArray):(ve9 xs).Pairwise (fun a b=>vad b a=false)∧∀x,x∈ve9 xs↔x∈xs:=by
 unfold ve9
 constructor
 ·rw [List.pairwise_map]
  have:=List.pairwise_mergeSort (le:=fun x y:List UInt8=>decide (x≤y)) (fun a b c h1 h2=>decide_eq_true (List.le_trans (of_decide_eq_true h1) (of_decide_eq_true h2))) (fun a b=>by
   rcases List.le_total a b with h|h
   ·simp [h]
   ·simp [h]) (xs.map fun x=>x.data.toList)
  refine this.imp ?_
  intro a b hab
  rw [vg7]
  exact decide_eq_false (List.not_lt.2 (of_decide_eq_true hab))
 ·intro x
  have hp:=List.mergeSort_perm (xs.map fun x=>x.data.toList) (fun x y=>decide (x≤y))
  simp only [List.mem_map,hp.mem_iff]
  constructor
  ·rintro⟨l,⟨y,hy,rfl⟩,rfl⟩
   exact hy
  ·intro hx
   exact⟨x.data.toList,⟨x,hx,rfl⟩,rfl⟩
def insK (out:List ByteArray)(k:ByteArray):List ByteArray:=(out.filter fun y=>vad y k)++k::out.filter fun y=>!(vad y k||vbm y k)
theorem vtj {out:List ByteArray}(h:Asc out)(k:ByteArray):Asc (insK out k)∧∀x,x∈insK out k↔x=k∨x∈out:=by
 have gt:∀y,(!(vad y k||vbm y k))=true→vad k y=true:=by
  intro y hy
  simp only [Bool.not_eq_true',Bool.or_eq_false_iff]at hy
  cases hh:vad k y
  ·have:=vj3 hy.1 hh
   rw [this,vjj]at hy
   cases hy.2
  ·rfl
 constructor
 ·unfold insK Asc
  rw [List.pairwise_append]
  refine⟨List.Pairwise.filter _ h,List.pairwise_cons.2 ⟨fun x hx=>gt x (List.mem_filter.1 hx).2,List.Pairwise.filter _ h⟩,fun a ha b hb=>?_⟩
  have ha':=(List.mem_filter.1 ha).2
  rcases List.mem_cons.1 hb with e|e
  ·rw [e];exact ha'
  ·exact vh8 ha' (gt b (List.mem_filter.1 e).2)
 ·intro x
  unfold insK
  simp only [List.mem_append,List.mem_cons,List.mem_filter]
  constructor
  ·rintro(⟨h1,_⟩|h1|⟨h1,_⟩)
   ·exact .inr h1
   ·exact .inl h1
   ·exact .inr h1
  ·rintro(h1|h1)
   ·exact .inr (.inl h1)
   ·cases h2:vad x k
    ·cases h3:vbm x k
     ·exact .inr (.inr ⟨h1,by simp [h2,h3]⟩)
     ·exact .inr (.inl (vjs h3))
    ·exact .inl ⟨h1,rfl⟩
def vjd (r:tRange.D):List tVersion.D→List ByteArray→List ByteArray
 |[],out=>out
 |v::l,out=>vjd r l (bif vbq r v.1 then insK out v.1 else out)
theorem vit (r:tRange.D):∀(l:List tVersion.D)(out:List ByteArray),Asc out→Asc (vjd r l out)∧∀x,x∈vjd r l out↔x∈out∨(vbq r x=true∧x∈l.map fun v=>v.1)
 |[],out,h=>⟨h,fun x=>by simp [vjd]⟩
 |v::l,out,h=>by
  simp only [vjd]
  cases hr:vbq r v.1
  ·obtain⟨i1,i2⟩:=vit r l out h
   refine⟨i1,fun x=>?_⟩
   rw [cond_false,i2 x]
   simp only [List.map_cons,List.mem_cons]
   constructor
   ·rintro(a|⟨a,b⟩)
    ·exact .inl a
    ·exact .inr ⟨a,.inr b⟩
   ·rintro(a|⟨a,b|b⟩)
    ·exact .inl a
    ·rw [b,hr]at a;cases a
    ·exact .inr ⟨a,b⟩
  ·obtain⟨j1,j2⟩:=vtj h v.1
   obtain⟨i1,i2⟩:=vit r l (insK out v.1) j1
   refine⟨i1,fun x=>?_⟩
   rw [cond_true,i2 x,j2 x]
   simp only [List.map_cons,List.mem_cons]
   constructor
   ·rintro((a|a)|⟨a,b⟩)
    ·exact .inr ⟨by rw [a];exact hr,.inl a⟩
    ·exact .inl a
    ·exact .inr ⟨a,.inr b⟩
   ·rintro(a|⟨a,b|b⟩)
    ·exact .inl (.inr a)
    ·exact .inl (.inl b)
    ·exact .inr ⟨a,b⟩
def vvv (l:List tVersion.D):List ByteArray:=dd (ve9 (l.map fun v=>v.1))
theorem vwn (r:tRange.D)(l:List tVersion.D):(vvv l).filter (fun k=>vbq r k)=vjd r l []:=by
 obtain⟨s1,s2⟩:=vp7 (l.map fun v=>v.1)
 obtain⟨d1,d2⟩:=v0o s1
 obtain⟨k1,k2⟩:=vit r l [] List.Pairwise.nil
 refine vwm (List.Pairwise.filter _ d1) k1 (fun x=>?_)
 rw [List.mem_filter,k2 x]
 unfold vvv
 rw [d2 x,s2 x]
 constructor
 ·rintro⟨a,b⟩;exact .inr ⟨b,a⟩
 ·rintro(a|⟨a,b⟩)
  ·cases a
  ·exact⟨b,a⟩
end
end Go.VE
/- Plain laws: scans. -/
namespace Go.VE
noncomputable section
set_option linter.unusedVariables false
set_option linter.unusedSimpArgs false
set_option maxRecDepth 100000
theorem vi8 {α:Type}(y:α):∀(S:List α)(i:Nat),i<S.length→(S.set i y).take (i+1)=S.take i++[y]
 |[],i,h=>by simp at h
 |a::S,0,h=>by simp
 |a::S,i+1,h=>by
  have:=vi8 y S i (by simpa using h)
  simp only [List.set_cons_succ,List.take_succ_cons,this,List.cons_append]
theorem vlr {α:Type}(y:α):∀(S:List α)(i n:Nat),i<n→(S.set i y).drop n=S.drop n
 |[],i,n,h=>by simp
 |a::S,0,n+1,h=>by simp
 |a::S,i+1,n+1,h=>by simpa using vlr y S i n (by omega)
 |a::S,i,0,h=>by omega
theorem vjn {st:Nat}:∀(l S:List ByteArray)(i k2 q:Nat)(p:ByteArray),S.drop (st+k2)=l→1≤k2→i+1≤st+k2→st+k2≤S.length→S.length≤3000000→l.length<q→S.getD (st+(k2-1)) (Ty.zero .str)=p→
  ∃(i':Nat) (k':Int) (S':List ByteArray),S'.length=S.length∧i'≤S'.length∧S'.take i'=S.take i++ddT p l∧∀K,vaf vfg q ((i:Int),st,(k2:Int),S) K=K ((i':Int),st,k',S')
 |l,S,i,k2,0,p,_,_,_,_,_,h,_=>by omega
 |[],S,i,k2,q+1,p,hd,h1,hi,hs,hS,_,hp=>by
  have hge:S.length≤st+k2:=by
   have:=congrArg List.length hd
   rw [List.length_drop]at this
   simp at this
   omega
  refine⟨i,(k2:Int),S,rfl,by omega,by simp [ddT],fun K=>?_⟩
  simp only [vaf,vfg,show ¬(k2:Int)<(S.length:Int)-(st:Int) by omega,decide_false,cond_false,Sum.elim_inr]
 |y::l,S,i,k2,q+1,p,hd,h1,hi,hs,hS,hq,hp=>by
  have hlt:=vb2 hd
  have hy:S.getD (st+k2) (Ty.zero .str)=y:=(vbg hd).2 _
  have w1:IntKind.wrap .i64 ((k2:Int)-1)=((k2-1:Nat):Int):=by rw [vhq (by omega) (by omega)];omega
  have w2:IntKind.wrap .i64 ((k2:Int)+1)=((k2+1:Nat):Int):=vbu (by omega)
  have w3:IntKind.wrap .i64 ((i:Int)+1)=((i+1:Nat):Int):=vbu (by omega)
  have c1:(k2:Int)<(S.length:Int)-(st:Int):=by omega
  have c2:(0:Int)≤(k2:Int):=by omega
  have c3:(0:Int)≤((k2-1:Nat):Int):=by omega
  have c4:((k2-1:Nat):Int)<(S.length:Int)-(st:Int):=by omega
  have c5:(0:Int)≤(i:Int):=by omega
  have c6:(i:Int)<(S.length:Int):=by omega
  cases he:vbm y p
  ·obtain⟨i',k',S',e1,e2,e3,e4⟩:=vjn (st:=st) l (S.set i y) (i+1) (k2+1) q y (by rw [vlr y S i _ (by omega)];exact vai hd) (by omega) (by omega) (by rw [List.length_set];omega) (by rw [List.length_set];omega) (by simpa using hq)
    (by rw [show st+(k2+1-1)=st+k2 by omega];rw [←hy];simp only [List.getD,List.getElem?_set_ne (show i≠st+k2 by omega)])
   refine⟨i',k',S',by rw [e1,List.length_set],e2,?_,fun K=>?_⟩
   ·rw [e3,vi8 y S i (by omega),List.append_assoc]
    simp only [ddT,he,cond_false,List.singleton_append]
   ·simp only [vaf,vfg,c1,c2,c3,c4,c5,c6,w1,decide_true,cond_true,and_self,if_true,Int.toNat_natCast,hy,hp,he,Bool.not_false,Sum.elim_inl,w2,w3]
    exact e4 K
  ·have hyp:=vjs he
   obtain⟨i',k',S',e1,e2,e3,e4⟩:=vjn (st:=st) l S i (k2+1) q y (vai hd) (by omega) (by omega) (by omega) hS (by simpa using hq) (by rw [show st+(k2+1-1)=st+k2 by omega];exact hy)
   refine⟨i',k',S',e1,e2,?_,fun K=>?_⟩
   ·rw [e3]
    simp only [ddT,he,cond_true]
   ·simp only [vaf,vfg,c1,c2,c3,c4,w1,decide_true,cond_true,and_self,if_true,Int.toNat_natCast,hy,hp,he,Bool.not_true,cond_false,Sum.elim_inl,w2]
    exact e4 K
theorem vnw {T:List ByteArray}(hT:T.length≤3000000){r:List ByteArray}:∀(l:List ByteArray)(i q:Nat),T.drop i=l→1≤i→i≤T.length→l.length<q→
  (T=T.take i++ddT (T.getD (i-1) (Ty.zero .str)) l∧∃j:Int,∀K,vaf ven q ((i:Int),T,r) K=K (.inl (j,T,r)))∨
   ∃j:Int,∀K,vaf ven q ((i:Int),T,r) K=K (.inr (j,T.take i++ddT (T.getD (i-1) (Ty.zero .str)) l))
 |l,i,0,_,_,_,h=>by omega
 |[],i,q+1,hd,h1,hi,_=>by
  have hge:=vbi hd
  left
  have:T.take i=T:=List.take_of_length_le (by omega)
  refine⟨by rw [this];simp [ddT],(i:Int),fun K=>?_⟩
  simp only [vaf,ven,hge,decide_false,cond_false,Sum.elim_inr]
 |y::l,i,q+1,hd,h1,hi,hq=>by
  have hlt:=vb2 hd
  have hy:T.getD i (Ty.zero .str)=y:=(vbg hd).2 _
  have w1:IntKind.wrap .i64 ((i:Int)-1)=((i-1:Nat):Int):=by rw [vhq (by omega) (by omega)];omega
  have w2:IntKind.wrap .i64 ((i:Int)+1)=((i+1:Nat):Int):=vbu (by omega)
  have c1:(i:Int)<(T.length:Int):=by omega
  have c2:(0:Int)≤(i:Int):=by omega
  have c3:(0:Int)≤((i-1:Nat):Int):=by omega
  have c4:((i-1:Nat):Int)<(T.length:Int):=by omega
  have c5:(i:Int)≤(T.length:Int):=by omega
  generalize hp:T.getD (i-1) (Ty.zero .str)=p
  cases he:vbm y p
  ·have htk:T.take (i+1)=T.take i++[y]:=by
    rw [List.take_succ_eq_append_getElem hlt]
    congr 2
    rw [←hy]
    simp [List.getD,hlt]
   have ih:=vnw hT (r:=r) l (i+1) q (vai hd) (by omega) (by omega) (by simpa using hq)
   rw [show i+1-1=i by omega,hy,htk,List.append_assoc,List.singleton_append]at ih
   have hdd:ddT p (y::l)=y::ddT y l:=by simp only [ddT,he,cond_false]
   rw [hdd]
   rcases ih with⟨e,j,hj⟩|⟨j,hj⟩
   ·left
    refine⟨e,j,fun K=>?_⟩
    simp only [vaf,ven,c1,c2,c3,c4,w1,decide_true,cond_true,and_self,if_true,Int.toNat_natCast,hy,hp,he,cond_false,Sum.elim_inl,w2]
    exact hj K
   ·right
    refine⟨j,fun K=>?_⟩
    simp only [vaf,ven,c1,c2,c3,c4,w1,decide_true,cond_true,and_self,if_true,Int.toNat_natCast,hy,hp,he,cond_false,Sum.elim_inl,w2]
    exact hj K
  ·right
   obtain⟨i',k',S',e1,e2,e3,e4⟩:=vjn (st:=i) l T i 1 Fuel y (vai hd) (by omega) (by omega) (by omega) hT (by have:=vcf;have:=congrArg List.length hd;rw [List.length_drop]at this;simp only [List.length_cons]at this;omega) (by rw [show i+(1-1)=i by omega];exact hy)
   have hdd:ddT p (y::l)=ddT y l:=by simp only [ddT,he,cond_true]
   rw [hdd]
   refine⟨(i':Int),fun K=>?_⟩
   have e4':∀K,vaf vfg Fuel ((i:Int),i,(1:Int),T) K=K ((i':Int),i,k',S'):=e4
   have d1:(0:Int)≤(i':Int):=by omega
   have d2:(i':Int)≤(S'.length:Int):=by omega
   have d3:(i':Int)≤((S'.take i'++List.replicate (S'.length-i') (Ty.zero .str)).length:Int):=by
    rw [List.length_append,List.length_take,List.length_replicate];omega
   have d4:(S'.take i'++List.replicate (S'.length-i') (Ty.zero .str)).take i'=S'.take i':=by
    rw [List.take_append_of_le_length (by rw [List.length_take];omega),List.take_take,Nat.min_self]
   rw [←e3]
   simp only [vaf,ven,c1,c2,c3,c4,c5,w1,decide_true,cond_true,and_self,if_true,Int.toNat_natCast,hy,hp,he,e4',d1,d2,d3,d4,Sum.elim_inr]
theorem vjl {T:List ByteArray}(hT:T.length≤3000000):(∀k,vl8 T k=k (.inl (dd T)))∨(∀k,vl8 T k=k (.inr (dd T))):=by
 rw [vv5]
 unfold vut
 match T,hT with
 |[],_=>exact .inl fun k=>rfl
 |[a],_=>exact .inl fun k=>rfl
 |a::b::l,hT=>
  have hn:¬(((a::b::l).length:Int)<2):=by simp only [List.length_cons];omega
  have h:=vnw hT (r:=[]) (b::l) 1 Fuel rfl (by omega) (by simp) (by have:=vcf;simp only [List.length_cons]at hT ⊢;omega)
  have hd:(a::b::l).take 1++ddT ((a::b::l).getD (1-1) (Ty.zero .str)) (b::l)=dd (a::b::l):=rfl
  rw [hd]at h
  have h1:((1:Nat):Int)=1:=rfl
  rw [h1]at h
  simp only [hn,decide_false,cond_false]
  rcases h with⟨e,j,hj⟩|⟨j,hj⟩
  ·left
   intro k
   rw [hj]
   simp only [Sum.elim_inl]
   rw [←e]
  ·right
   intro k
   rw [hj]
   rfl
theorem vm1 {u0}:∀(l:List tVersion.D)(s:List ByteArray)(i:Nat),s.length+l.length≤3000000→∃j:Int,∀k,vff u0 l s i k=k (j,s++l.map fun v=>v.1)
 |[],s,i,_=>⟨_,fun k=>by simp [vff];rfl⟩
 |y::l,s,i,h=>by
  simp only [List.length_cons]at h
  obtain⟨j,hj⟩:=vm1 (u0:=u0) l (s++[y.1]) (i+1) (by simp;omega)
  refine⟨j,fun k=>?_⟩
  have hm:s.length+[y.1].length≤VE.maxLen:=by show _≤4294967296;simp;omega
  simp only [vff,if_pos hm,hj,List.map_cons,List.append_assoc,List.singleton_append]
theorem v1q {l:List tVersion.D}(hl:l.length≤1048576) (k):vny l k=k (vvv l):=by
 rw [v3b (by omega)]
 unfold vwr
 obtain⟨j,hj⟩:=vm1 (u0:=l) l [] 0 (by simp;omega)
 have hs:∀xs:List ByteArray,xs.length≤1000000000→∀k,vnh xs k=k (ve9 xs):=fun xs h k=>by
  rw [vwv]
  unfold vqg
  rw [if_pos h]
 rw [hj]
 simp only [List.nil_append]
 rw [hs _ (by rw [List.length_map];omega)]
 rcases vjl (T:=ve9 (l.map fun v=>v.1)) (by rw [veh,List.length_map];omega)with h|h<;>rw [h]<;>rfl
end
end Go.VE
/- Plain laws: what scans see. -/
namespace Go.VE
noncomputable section
set_option linter.unusedVariables false
set_option linter.unusedSimpArgs false
set_option maxRecDepth 100000
theorem vsv {u0:List tVersion.D}{u1:Int}{ky r1 r2:ByteArray}{out:List ByteArray}(ho:out.length≤1048576):∀(l acc:List ByteArray)(j q:Nat),out.drop j=l→l.length<q→acc.length+l.length≤3000000→∃j':Int,∀K,
  vaf vgn q (u0,u1,ky,(j:Int),r1,r2,out,acc) K=K (u0,u1,ky,j',r1,r2,out,acc++l.filter fun y=>vad y ky)
 |l,acc,j,0,_,h,_=>by omega
 |[],acc,j,q+1,hd,_,_=>by
  have hge:=vbi hd
  refine⟨(j:Int),fun K=>?_⟩
  simp only [vaf,vgn,hge,decide_false,cond_false,Sum.elim_inr,List.filter_nil,List.append_nil]
 |y::l,acc,j,q+1,hd,hq,ha=>by
  simp only [List.length_cons]at ha
  have hlt:=vb2 hd
  have hy:out.getD j (Ty.zero .str)=y:=(vbg hd).2 _
  have w:IntKind.wrap .i64 ((j:Int)+1)=((j+1:Nat):Int):=vbu (by omega)
  have c1:(j:Int)<(out.length:Int):=by omega
  have c2:(0:Int)≤(j:Int):=by omega
  have hm:acc.length+[y].length≤VE.maxLen:=by show _≤4294967296;simp;omega
  cases he:vad y ky
  ·obtain⟨j',hj⟩:=vsv (u0:=u0) (u1:=u1) (ky:=ky) (r1:=r1) (r2:=r2) ho l acc (j+1) q (vai hd) (by simpa using hq) (by omega)
   refine⟨j',fun K=>?_⟩
   simp only [vaf,vgn,c1,c2,decide_true,cond_true,and_self,if_true,Int.toNat_natCast,hy,he,cond_false,Sum.elim_inl,w,List.filter_cons]
   exact hj K
  ·obtain⟨j',hj⟩:=vsv (u0:=u0) (u1:=u1) (ky:=ky) (r1:=r1) (r2:=r2) ho l (acc++[y]) (j+1) q (vai hd) (by simpa using hq) (by simp;omega)
   refine⟨j',fun K=>?_⟩
   simp only [vaf,vgn,c1,c2,decide_true,cond_true,and_self,if_true,Int.toNat_natCast,hy,he,if_pos hm,Sum.elim_inl,w,List.filter_cons]
   rw [hj K,List.append_assoc,List.singleton_append]
theorem vr9 {u0:List tVersion.D}{u1:Int}{ky r1 r2:ByteArray}{out:List ByteArray}(ho:out.length≤1048576):∀(l acc:List ByteArray)(j q:Nat),out.drop j=l→l.length<q→acc.length+l.length≤3000000→∃j':Int,∀K,
  vaf vfz q (u0,u1,ky,(j:Int),r1,r2,out,acc) K=K (u0,u1,ky,j',r1,r2,out,acc++l.filter fun y=>!(vad y ky||vbm y ky))
 |l,acc,j,0,_,h,_=>by omega
 |[],acc,j,q+1,hd,_,_=>by
  have hge:=vbi hd
  refine⟨(j:Int),fun K=>?_⟩
  simp only [vaf,vfz,hge,decide_false,cond_false,Sum.elim_inr,List.filter_nil,List.append_nil]
 |y::l,acc,j,q+1,hd,hq,ha=>by
  simp only [List.length_cons]at ha
  have hlt:=vb2 hd
  have hy:out.getD j (Ty.zero .str)=y:=(vbg hd).2 _
  have w:IntKind.wrap .i64 ((j:Int)+1)=((j+1:Nat):Int):=vbu (by omega)
  have c1:(j:Int)<(out.length:Int):=by omega
  have c2:(0:Int)≤(j:Int):=by omega
  have hm:acc.length+[y].length≤VE.maxLen:=by show _≤4294967296;simp;omega
  cases he:(!(vad y ky||vbm y ky))
  ·obtain⟨j',hj⟩:=vr9 (u0:=u0) (u1:=u1) (ky:=ky) (r1:=r1) (r2:=r2) ho l acc (j+1) q (vai hd) (by simpa using hq) (by omega)
   refine⟨j',fun K=>?_⟩
   simp only [vaf,vfz,c1,c2,decide_true,cond_true,and_self,if_true,Int.toNat_natCast,hy,he,cond_false,Sum.elim_inl,w,List.filter_cons]
   exact hj K
  ·obtain⟨j',hj⟩:=vr9 (u0:=u0) (u1:=u1) (ky:=ky) (r1:=r1) (r2:=r2) ho l (acc++[y]) (j+1) q (vai hd) (by simpa using hq) (by simp;omega)
   refine⟨j',fun K=>?_⟩
   simp only [vaf,vfz,c1,c2,decide_true,cond_true,and_self,if_true,Int.toNat_natCast,hy,he,if_pos hm,Sum.elim_inl,w,List.filter_cons]
   rw [hj K,List.append_assoc,List.singleton_append]
theorem vje:∀{l m:List ByteArray},Asc l→(∀x∈l,x∈m)→l.length≤m.length:=by
 intro l m h hm
 have nd:l.Nodup:=by
  refine List.Pairwise.imp ?_ h
  intro a b hab e
  rw [e,vd6]at hab
  cases hab
 exact List.Nodup.length_le_of_subset nd hm
theorem vss {u0:List tVersion.D}(hu:u0.length≤1048576){r:tRange.D}:∀(l:List tVersion.D)(out:List ByteArray)(i q:Nat),u0.drop i=l→l.length<q→Asc out→(∀x∈out,x∈u0.map fun v=>v.1)→∃j:Int,∀K,
  vaf vg0 q (u0,(i:Int),r.1,r.2,out) K=K (u0,j,r.1,r.2,vjd r l out)
 |l,out,i,0,_,h,_,_=>by omega
 |[],out,i,q+1,hd,_,_,_=>by
  have hge:=vbi hd
  refine⟨(i:Int),fun K=>?_⟩
  simp only [vaf,vg0,hge,decide_false,cond_false,Sum.elim_inr,vjd]
 |y::l,out,i,q+1,hd,hq,ha,hsub=>by
  have hlt:=vb2 hd
  have hy:rd (Ty.zero tVersion) u0 (i:Int)=y:=(vbg hd).1 _
  have w:IntKind.wrap .i64 ((i:Int)+1)=((i+1:Nat):Int):=vbu (by omega)
  have c1:(i:Int)<(u0.length:Int):=by omega
  have c2:(0:Int)≤(i:Int):=by omega
  have hol:out.length≤1048576:=by
   have:=vje ha hsub
   rw [List.length_map]at this
   omega
  have hin:∀k,vmr (r.1,r.2) y.1 k=k (vbq r y.1):=fun k=>v1y r y.1 k
  simp only [vjd]
  cases hr:vbq r y.1
  ·obtain⟨j,hj⟩:=vss hu (r:=r) l out (i+1) q (vai hd) (by simpa using hq) ha hsub
   refine⟨j,fun K=>?_⟩
   simp only [vaf,vg0,c1,c2,decide_true,cond_true,and_self,if_true,hy,hin,hr,Bool.not_false,Sum.elim_inl,w,cond_false]
   exact hj K
  ·obtain⟨j1,h1⟩:=vsv (u0:=u0) (u1:=(i:Int)) (ky:=y.1) (r1:=r.1) (r2:=r.2) (out:=out) (by omega) out [] 0 Fuel rfl (Nat.lt_of_lt_of_le (by omega) vcf) (by simp;omega)
   have hfl:=List.length_filter_le (fun z=>vad z y.1) out
   obtain⟨j2,h2⟩:=vr9 (u0:=u0) (u1:=(i:Int)) (ky:=y.1) (r1:=r.1) (r2:=r.2) (out:=out) (by omega) out ((out.filter fun z=>vad z y.1)++[y.1]) 0 Fuel rfl (Nat.lt_of_lt_of_le (by omega) vcf) (by simp;omega)
   have hz:((0:Nat):Int)=0:=rfl
   rw [hz]at h1 h2
   obtain⟨a1,a2⟩:=vtj ha y.1
   obtain⟨j,hj⟩:=vss hu (r:=r) l (insK out y.1) (i+1) q (vai hd) (by simpa using hq) a1 (fun x hx=>by
    rcases(a2 x).1 hx with e|e
    ·rw [e];exact List.mem_map.2 ⟨y,vrt hd,rfl⟩
    ·exact hsub x e)
   refine⟨j,fun K=>?_⟩
   have hm:(out.filter fun z=>vad z y.1).length+[y.1].length≤VE.maxLen:=by show _≤4294967296;simp only [List.length_singleton];omega
   simp only [vaf,vg0,c1,c2,decide_true,cond_true,and_self,if_true,hy,hin,hr,Bool.not_true,cond_false,h1,List.nil_append,if_pos hm,h2,Sum.elim_inl,w]
   have e:(out.filter fun z=>vad z y.1)++[y.1]++(out.filter fun z=>!(vad z y.1||vbm z y.1))=insK out y.1:=by unfold insK;rw [List.append_assoc,List.singleton_append]
   rw [e]
   exact hj K
theorem v1s {l:List tVersion.D}(hl:l.length≤1048576)(r:tRange.D) (k):vq6 l r k=k (vjd r l []):=by
 rw [vv3]
 unfold vt8
 obtain⟨j,hj⟩:=vss hl (r:=r) l [] 0 Fuel rfl (Nat.lt_of_lt_of_le (by omega) vcf) List.Pairwise.nil (fun x h=>by cases h)
 have hz:((0:Nat):Int)=0:=rfl
 rw [hz]at hj
 rw [hj]
def seeF (l:List tVersion.D)(snap:Int)(k:ByteArray):Option tRange.D:=bif (vcc l k snap).2 then some (k,(vcc l k snap).1)else none
theorem vlj {u0:List tVersion.D}(hu:u0.length≤1048576){snap:Int}{ks:List ByteArray}(hk:ks.length≤1048576):∀(l:List ByteArray)(out:List tRange.D)(i q:Nat),ks.drop i=l→l.length<q→out.length+l.length≤3000000→∃j:Int,∀K,
  vaf vf4 q (u0,snap,(i:Int),out,ks) K=K (u0,snap,j,out++l.filterMap (seeF u0 snap),ks)
 |l,out,i,0,_,h,_=>by omega
 |[],out,i,q+1,hd,_,_=>by
  have hge:=vbi hd
  refine⟨(i:Int),fun K=>?_⟩
  simp only [vaf,vf4,hge,decide_false,cond_false,Sum.elim_inr,List.filterMap_nil,List.append_nil]
 |y::l,out,i,q+1,hd,hq,ha=>by
  simp only [List.length_cons]at ha
  have hlt:=vb2 hd
  have hy:ks.getD i (Ty.zero .str)=y:=(vbg hd).2 _
  have w:IntKind.wrap .i64 ((i:Int)+1)=((i+1:Nat):Int):=vbu (by omega)
  have c1:(i:Int)<(ks.length:Int):=by omega
  have c2:(0:Int)≤(i:Int):=by omega
  cases he:(vcc u0 y snap).2
  ·obtain⟨j,hj⟩:=vlj hu (snap:=snap) hk l out (i+1) q (vai hd) (by simpa using hq) (by omega)
   refine⟨j,fun K=>?_⟩
   simp only [vaf,vf4,c1,c2,decide_true,cond_true,and_self,if_true,Int.toNat_natCast,hy,vxt hu,he,cond_false,Sum.elim_inl,w,List.filterMap_cons,seeF]
   exact hj K
  ·have hm:out.length+[(y,(vcc u0 y snap).1)].length≤VE.maxLen:=by show _≤4294967296;simp;omega
   obtain⟨j,hj⟩:=vlj hu (snap:=snap) hk l (out++[(y,(vcc u0 y snap).1)]) (i+1) q (vai hd) (by simpa using hq) (by simp;omega)
   refine⟨j,fun K=>?_⟩
   simp only [vaf,vf4,c1,c2,decide_true,cond_true,and_self,if_true,Int.toNat_natCast,hy,vxt hu,he,if_pos hm,Sum.elim_inl,w,List.filterMap_cons,seeF]
   rw [hj K,List.append_assoc,List.singleton_append]
def seeI (l:List tVersion.D)(r:tRange.D)(snap:Int)(k:ByteArray):Option tRange.D:=bif (vcc l k snap).2&&vbq r k then some (k,(vcc l k snap).1)else none
theorem viq {u0:List tVersion.D}(hu:u0.length≤1048576){snap:Int}{r:tRange.D}{ks:List ByteArray}(hk:ks.length≤1048576):∀(l:List ByteArray)(out:List tRange.D)(i q:Nat),ks.drop i=l→l.length<q→out.length+l.length≤3000000→∃j:Int,∀K,
  vaf vfa q (u0,snap,(ks.length:Int),(i:Int),r.1,r.2,out,ks) K=K (u0,snap,(ks.length:Int),j,r.1,r.2,out++l.filterMap (seeI u0 r snap),ks)
 |l,out,i,0,_,h,_=>by omega
 |[],out,i,q+1,hd,_,_=>by
  have hge:=vbi hd
  refine⟨(i:Int),fun K=>?_⟩
  simp only [vaf,vfa,hge,decide_false,cond_false,Sum.elim_inr,List.filterMap_nil,List.append_nil]
 |y::l,out,i,q+1,hd,hq,ha=>by
  simp only [List.length_cons]at ha
  have hlt:=vb2 hd
  have hy:ks.getD i (Ty.zero .str)=y:=(vbg hd).2 _
  have w:IntKind.wrap .i64 ((i:Int)+1)=((i+1:Nat):Int):=vbu (by omega)
  have c1:(i:Int)<(ks.length:Int):=by omega
  have c2:(0:Int)≤(i:Int):=by omega
  have hin:∀k,vn0 (r.1,r.2) y k=k (vbq r y):=fun k=>v1j r y k
  cases he:(vcc u0 y snap).2
  ·obtain⟨j,hj⟩:=viq hu (snap:=snap) (r:=r) hk l out (i+1) q (vai hd) (by simpa using hq) (by omega)
   refine⟨j,fun K=>?_⟩
   simp only [vaf,vfa,c1,c2,decide_true,cond_true,and_self,if_true,Int.toNat_natCast,hy,vry hu,he,cond_false,Sum.elim_inl,w,List.filterMap_cons,seeI,Bool.false_and]
   exact hj K
  ·cases hr:vbq r y
   ·obtain⟨j,hj⟩:=viq hu (snap:=snap) (r:=r) hk l out (i+1) q (vai hd) (by simpa using hq) (by omega)
    refine⟨j,fun K=>?_⟩
    simp only [vaf,vfa,c1,c2,decide_true,cond_true,and_self,if_true,Int.toNat_natCast,hy,vry hu,he,hin,hr,cond_false,Sum.elim_inl,w,List.filterMap_cons,seeI,Bool.true_and]
    exact hj K
   ·have hm:out.length+[(y,(vcc u0 y snap).1)].length≤VE.maxLen:=by show _≤4294967296;simp;omega
    obtain⟨j,hj⟩:=viq hu (snap:=snap) (r:=r) hk l (out++[(y,(vcc u0 y snap).1)]) (i+1) q (vai hd) (by simpa using hq) (by simp;omega)
    refine⟨j,fun K=>?_⟩
    simp only [vaf,vfa,c1,c2,decide_true,cond_true,and_self,if_true,Int.toNat_natCast,hy,vry hu,he,hin,hr,if_pos hm,Sum.elim_inl,w,List.filterMap_cons,seeI,Bool.true_and]
    rw [hj K,List.append_assoc,List.singleton_append]
def vhj (l:List tVersion.D)(r:tRange.D)(snap:Int):List tRange.D:=(vjd r l []).filterMap (seeF l snap)
theorem filterMap_filter' {α β:Type}(p:α→Bool)(f:α→Option β):∀l:List α,l.filterMap (fun x=>bif p x then f x else none)=(l.filter p).filterMap f
 |[]=>rfl
 |x::l=>by
  simp only [List.filterMap_cons,List.filter_cons,filterMap_filter' p f l]
  cases p x<;>rfl
theorem vwi (l:List tVersion.D)(r:tRange.D)(snap:Int):(vvv l).filterMap (seeI l r snap)=vhj l r snap:=by
 unfold vhj
 rw [←vwn,←filterMap_filter']
 congr 1
 funext k
 unfold seeI seeF
 cases vbq r k<;>cases (vcc l k snap).2<;>rfl
theorem vj1 {l:List tVersion.D}(r:tRange.D):(vjd r l []).length≤l.length:=by
 obtain⟨k1,k2⟩:=vit r l [] List.Pairwise.nil
 have:=vje (m:=l.map fun v=>v.1) k1 (fun x hx=>by
  rcases(k2 x).1 hx with e|e
  ·cases e
  ·exact e.2)
 rw [List.length_map]at this
 exact this
theorem vp8 (l:List tVersion.D):(vvv l).length≤l.length:=by
 obtain⟨s1,s2⟩:=vp7 (l.map fun v=>v.1)
 obtain⟨d1,d2⟩:=v0o s1
 have:=vje (m:=l.map fun v=>v.1) d1 (fun x hx=>(s2 x).1 ((d2 x).1 hx))
 rw [List.length_map]at this
 exact this
theorem vfy (l:List tVersion.D)(r:tRange.D)(snap:Int):(vhj l r snap).length≤l.length:=by
 unfold vhj
 exact Nat.le_trans (List.length_filterMap_le _ _) (vj1 r)
theorem vrv {l:List tVersion.D}(hl:l.length≤1048576)(r:tRange.D)(snap:Int) (k):vio l r snap k=k (vhj l r snap):=by
 rw [vyg]
 unfold vt4
 have hk:=vj1 (l:=l) r
 obtain⟨j,hj⟩:=vlj (u0:=l) (by omega) (snap:=snap) (ks:=vjd r l []) (by omega) _ [] 0 Fuel rfl (Nat.lt_of_lt_of_le (by rw [List.drop_zero];omega) vcf) (by simp;omega)
 have hz:((0:Nat):Int)=0:=rfl
 rw [hz]at hj
 simp only [v1s hl,hj,List.nil_append,List.drop_zero]
 rfl
theorem vx7 {l:List tVersion.D}(hl:l.length≤1048576)(r:tRange.D)(snap:Int) (k):vnp l r snap k=k (vhj l r snap):=by
 rw [vwc]
 unfold vuj
 have hk:=vp8 l
 obtain⟨j,hj⟩:=viq (u0:=l) (by omega) (snap:=snap) (r:=r) (ks:=vvv l) (by omega) _ [] 0 Fuel rfl (Nat.lt_of_lt_of_le (by rw [List.drop_zero];omega) vcf) (by simp;omega)
 have hz:((0:Nat):Int)=0:=rfl
 rw [hz]at hj
 simp only [v1q (show l.length≤1048576 by omega),hj,List.nil_append,List.drop_zero]
 exact congrArg k (vwi l r snap)
end
end Go.VE
/- Plain laws: two lists of versions that look alike from a number on. -/
namespace Go.VE
noncomputable section
set_option linter.unusedVariables false
set_option linter.unusedSimpArgs false
set_option maxRecDepth 100000
theorem vng {u0 u2}{α:Type}:∀(l:List (List tVersion.D))(s:Int)(i:Nat),0≤s→s+((l.map List.length).sum:Int)≤100000000→∃j:Int,∀k,vfp u0 u2 l s i k=k (s+((l.map List.length).sum:Int),j)
 |[],s,i,_,_=>⟨_,fun k=>by simp [vfp];rfl⟩
 |y::l,s,i,h0,h=>by
  simp only [List.map_cons,List.sum_cons]at h
  have hw:IntKind.wrap .i64 (s+(y.length:Int))=s+(y.length:Int):=vhq (by omega) (by omega)
  obtain⟨j,hj⟩:=vng (u0:=u0) (u2:=u2) (α:=α) l (s+(y.length:Int)) (i+1) (by omega) (by push_cast at h;omega)
  refine⟨j,fun k=>?_⟩
  simp only [vfp,hw,show decide (s+(y.length:Int)<0)=false by simp;omega,cond_false,hj]
  congr 2
  simp only [List.map_cons,List.sum_cons]
  push_cast
  omega
theorem vnl {u0}:∀(l:List (List tVersion.D))(s:List tVersion.D)(i:Nat),s.length+(l.map List.length).sum≤100000000→∃j:Int,∀k,ve7 u0 l s i k=k (j,s++l.flatten)
 |[],s,i,_=>⟨_,fun k=>by simp [ve7];rfl⟩
 |y::l,s,i,h=>by
  simp only [List.map_cons,List.sum_cons]at h
  obtain⟨j,hj⟩:=vnl (u0:=u0) l (s++y) (i+1) (by simp;omega)
  refine⟨j,fun k=>?_⟩
  have hm:s.length+y.length≤VE.maxLen:=by show _≤4294967296;omega
  simp only [ve7,if_pos hm,hj,List.flatten_cons,List.append_assoc]
theorem v1k {a b:List tVersion.D}(ha:a.length≤1048577)(hb:b.length≤1048577) (k):vnq [a,b] k=k (a++b):=by
 rw [v3l (by simp)]
 unfold vwk
 obtain⟨j,hj⟩:=vng (u0:=[a,b]) (u2:=[a,b]) (α:=Unit) [a,b] 0 0 (by omega) (by simp;omega)
 rw [hj]
 have hg:∀n:Int,0≤n→n≤100000000→∀k,vmz n k=k []:=by
  intro n h0 h1 k
  rw [vyd]
  unfold vtw
  have e0:IntKind.wrap .i64 ((0:Int)-0)=0:=vhq (by omega) (by omega)
  have e1:IntKind.wrap .i64 (n-0)=n:=by rw [vhq (by omega) (by omega)];omega
  simp only [e0,e1,show decide (n<0)=false by simp;omega,cond_false]
  by_cases hn:n>0
  ·have e3:0≤n∧n≤(VE.maxLen:Int):=⟨h0,by show n≤4294967296;omega⟩
   simp only [hn,decide_true,cond_true]
   rw [if_pos (by omega),if_pos e3,if_pos ⟨by omega,by omega⟩]
   simp
  ·simp only [hn,decide_false,cond_false]
 simp only [Int.zero_add]
 rw [hg _ (by omega) (by simp;omega)]
 obtain⟨j2,hj2⟩:=vnl (u0:=[a,b]) [a,b] [] 0 (by simp;omega)
 rw [hj2]
 simp
def prsF (u1:List tRange.D):List tRange.D→Nat→Bool
 |[],_=>true
 |y::l,i=>Ty.eqB tRange y (u1.getD i (Ty.zero tRange))&&prsF u1 l (i+1)
def vl9 (a b:List tRange.D):Bool:=bif (a.length:Int) != (b.length:Int)then false else prsF b a 0
theorem vmq {u0 u1:List tRange.D}(he:u0.length=u1.length) {u2}:∀(l:List tRange.D)(i:Nat),u0.drop i=l→∃j:Int,∀k,vgu u0 u1 u2 l i k=k (bif prsF u1 l i then .inr j else .inl (false,j))
 |[],i,_=>⟨_,fun k=>rfl⟩
 |y::l,i,hd=>by
  have hlt:=vb2 hd
  obtain⟨j,hj⟩:=vmq he (u2:=u2) l (i+1) (vai hd)
  have hrd:rd (Ty.zero tRange) u1 (i:Int)=u1.getD i (Ty.zero tRange):=rfl
  simp only [vgu,if_pos (show 0≤(i:Int)∧(i:Int)<(u1.length:Int) by omega),hrd,hj,prsF]
  cases Ty.eqB tRange y (u1.getD i (Ty.zero tRange))
  ·exact⟨(i:Int),fun k=>rfl⟩
  ·exact⟨j,fun k=>rfl⟩
theorem vec {u0 u1:List tRange.D}(he:u0.length=u1.length) {u2}:∀(l:List tRange.D)(i:Nat),u0.drop i=l→∃j:Int,∀k,vf2 u0 u1 u2 l i k=k (bif prsF u1 l i then .inr j else .inl (false,j))
 |[],i,_=>⟨_,fun k=>rfl⟩
 |y::l,i,hd=>by
  have hlt:=vb2 hd
  obtain⟨j,hj⟩:=vec he (u2:=u2) l (i+1) (vai hd)
  have hrd:rd (Ty.zero tRange) u1 (i:Int)=u1.getD i (Ty.zero tRange):=rfl
  simp only [vf2,if_pos (show 0≤(i:Int)∧(i:Int)<(u1.length:Int) by omega),hrd,hj,prsF]
  cases Ty.eqB tRange y (u1.getD i (Ty.zero tRange))
  ·exact⟨(i:Int),fun k=>rfl⟩
  ·exact⟨j,fun k=>rfl⟩
theorem vv1 {a b:List tRange.D}(ha:a.length≤1048576) (k):vk9 a b k=k (vl9 a b):=by
 rw [v3i (by omega)]
 unfold vwq vl9
 by_cases he:a.length=b.length
 ·have hb:((a.length:Int) != (b.length:Int))=false:=by rw [he];simp
  obtain⟨j,hj⟩:=vmq he (u2:=false) a 0 rfl
  simp only [hb,cond_false,hj]
  cases prsF b a 0<;>rfl
 ·have hb:((a.length:Int) != (b.length:Int))=true:=by simp;omega
  simp only [hb,cond_true]
theorem vl3 {a b:List tRange.D}(ha:a.length≤1048576) (k):vm4 a b k=k (vl9 a b):=by
 rw [v2m (by omega)]
 unfold vwz vl9
 by_cases he:a.length=b.length
 ·have hb:((a.length:Int) != (b.length:Int))=false:=by rw [he];simp
  obtain⟨j,hj⟩:=vec he (u2:=false) a 0 rfl
  simp only [hb,cond_false,hj]
  cases prsF b a 0<;>rfl
 ·have hb:((a.length:Int) != (b.length:Int))=true:=by simp;omega
  simp only [hb,cond_true]
def allR:tRange.D:=((⟨#[97]⟩:ByteArray),(⟨#[122,122,122]⟩:ByteArray))
def vc3 (a b:List tVersion.D)(at_:Int):Bool:=vl9 (vhj a allR at_) (vhj b allR at_)
def vi1 (a b:List tVersion.D)(snap:Int):Bool:=vc3 a b snap&&(a++b).all fun v=>!decide (v.2.2.2>snap)||vc3 a b v.2.2.2
theorem vyk {a b:List tVersion.D}(ha:a.length≤1048576)(hb:b.length≤1048576)(n:Int) (k):vmt n a b k=k (vc3 a b n,a,b):=by
 rw [vxv]
 unfold vur vc3
 have hA:∀k,vmm k=k allR:=fun k=>by rw [vwo];rfl
 have hs:=vfy a allR n
 simp only [hA,vx7 ha,vx7 hb,vl3 (show (vhj a allR n).length≤1048576 by omega)]
theorem vqh {a b:List tVersion.D}(ha:a.length≤1048576)(hb:b.length≤1048576){snap:Int}{v0:Bool}{L:List tVersion.D}(hL:L.length≤3000000):∀(l:List tVersion.D)(i q:Nat),L.drop i=l→l.length<q→∃j:Int,∀K,
  vaf vic q (snap,v0,(L.length:Int),(i:Int),a,b,L) K=K (bif l.all (fun v=>!decide (v.2.2.2>snap)||vc3 a b v.2.2.2)then .inr (snap,v0,(L.length:Int),j,a,b,L)else .inl (snap,false,(L.length:Int),j,a,b,L))
 |l,i,0,_,h=>by omega
 |[],i,q+1,hd,_=>by
  have hge:=vbi hd
  refine⟨(i:Int),fun K=>?_⟩
  simp only [vaf,vic,hge,decide_false,cond_false,Sum.elim_inr]
  rfl
 |y::l,i,q+1,hd,hq=>by
  have hlt:=vb2 hd
  have hy:L.getD i (Ty.zero tVersion)=y:=(vbg hd).2 _
  have w:IntKind.wrap .i64 ((i:Int)+1)=((i+1:Nat):Int):=vbu (by omega)
  have c1:(i:Int)<(L.length:Int):=by omega
  have c2:(0:Int)≤(i:Int):=by omega
  obtain⟨j,hj⟩:=vqh ha hb (snap:=snap) (v0:=v0) hL l (i+1) q (vai hd) (by simpa using hq)
  simp only [vaf,vic,c1,c2,decide_true,cond_true,and_self,if_true,Int.toNat_natCast,hy,vyk ha hb,List.all_cons]
  cases decide (y.2.2.2>snap)
  ·refine⟨j,fun K=>?_⟩
   simp only [cond_false,Sum.elim_inl,w,Bool.not_false,Bool.true_or,Bool.true_and]
   exact hj K
  ·cases vc3 a b y.2.2.2
   ·exact⟨(i:Int),fun K=>rfl⟩
   ·refine⟨j,fun K=>?_⟩
    simp only [cond_true,cond_false,Bool.not_true,Sum.elim_inl,w,Bool.or_true,Bool.true_and]
    exact hj K
theorem v1u {a b:List tVersion.D}(ha:a.length≤1048576)(hb:b.length≤1048576)(snap:Int) (k):vpr a b snap k=k (vi1 a b snap):=by
 rw [vxc]
 unfold vtv vi1
 have hlen:(a++b).length≤3000000:=by rw [List.length_append];omega
 obtain⟨j,hj⟩:=vqh ha hb (snap:=snap) (v0:=false) hlen (a++b) 0 Fuel rfl (Nat.lt_of_lt_of_le (by omega) vcf)
 have hz:((0:Nat):Int)=0:=rfl
 rw [hz]at hj
 simp only [v1k (show a.length≤1048577 by omega) (show b.length≤1048577 by omega),hj]
 cases (a++b).all (fun v=>!decide (v.2.2.2>snap)||vc3 a b v.2.2.2)
 ·simp only [cond_false,Sum.elim_inl,Bool.and_false]
 ·simp only [cond_true,Sum.elim_inr,vyk ha hb,Bool.and_true]
theorem vtt {a b:List tVersion.D}(ha:a.length≤1048576)(hb:b.length≤1048576){snap:Int}{v:Bool}{i c:Int} (K) :
  vbl (a,b,snap,v,i,c,allR.1,allR.2) K=K (bif !decide (c>snap)||vc3 a b c then .inr (a,b,snap,v,i,c,allR.1,allR.2)else .inl (a,b,snap,false,i,c,allR.1,allR.2)):=by
 have hs:=vfy a allR c
 have e1:∀(l:List tVersion.D) (hl:l.length≤1048576) (k),vio l (allR.1,allR.2) c k=k (vhj l allR c):=fun l hl k=>vrv hl allR c k
 simp only [vbl,e1 a ha,e1 b hb,vv1 (show (vhj a allR c).length≤1048576 by omega)]
 unfold vc3
 cases decide (c>snap)<;>cases vl9 (vhj a allR c) (vhj b allR c)<;>rfl
theorem vqv {a b:List tVersion.D}(ha:a.length≤1048576)(hb:b.length≤1048576){snap:Int}:∀(l:List tVersion.D)(i q:Nat),(a++b).drop i=l→l.length<q→∃j:Int,∀K,
  vaf vfb q (a,b,snap,false,(i:Int),allR.1,allR.2) K=K (bif l.all (fun v=>!decide (v.2.2.2>snap)||vc3 a b v.2.2.2)then .inl (a,b,snap,false,j,allR.1,allR.2)else .inr (a,b,snap,false,j,allR.1,allR.2))
 |l,i,0,_,h=>by omega
 |[],i,q+1,hd,_=>by
  have hge:=vbi hd
  rw [List.length_append]at hge
  have w0:IntKind.wrap .i64 ((a.length:Int)+(b.length:Int))=((a.length+b.length:Nat):Int):=by rw [vhq (by omega) (by omega)];push_cast;rfl
  refine⟨(i:Int),fun K=>?_⟩
  simp only [vaf,vfb,w0,hge,decide_false,cond_false,Sum.elim_inr]
  rfl
 |y::l,i,q+1,hd,hq=>by
  have hlt:=vb2 hd
  rw [List.length_append]at hlt
  have hy:(a++b).getD i (Ty.zero tVersion)=y:=(vbg hd).2 _
  have w0:IntKind.wrap .i64 ((a.length:Int)+(b.length:Int))=((a.length+b.length:Nat):Int):=by rw [vhq (by omega) (by omega)];push_cast;rfl
  have w:IntKind.wrap .i64 ((i:Int)+1)=((i+1:Nat):Int):=vbu (by omega)
  have c0:(i:Int)<((a.length+b.length:Nat):Int):=by omega
  have c2:(0:Int)≤(i:Int):=by omega
  obtain⟨j,hj⟩:=vqv ha hb (snap:=snap) l (i+1) q (vai hd) (by simpa using hq)
  have hstep:∀K,vfb (a,b,snap,false,(i:Int),allR.1,allR.2) K=K (bif !decide (y.2.2.2>snap)||vc3 a b y.2.2.2 then .inl (a,b,snap,false,((i+1:Nat):Int),allR.1,allR.2)else .inr (.inr (a,b,snap,false,(i:Int),allR.1,allR.2))):=by
   intro K
   by_cases hi:i<a.length
   ·have hya:rd (Ty.zero tVersion) a (i:Int)=y:=by
     rw [←hy]
     show a.getD i _=_
     simp [List.getD,List.getElem?_append_left hi]
    simp only [vfb,w0,c0,show (i:Int)<(a.length:Int) by omega,c2,and_self,if_true,decide_true,cond_true,hya,vtt ha hb]
    cases (!decide (y.2.2.2>snap)||vc3 a b y.2.2.2)
    ·rfl
    ·simp only [cond_true,Sum.elim_inr,w]
   ·have w1:IntKind.wrap .i64 ((i:Int)-(a.length:Int))=((i-a.length:Nat):Int):=by rw [vhq (by omega) (by omega)];omega
    have hyb:rd (Ty.zero tVersion) b ((i-a.length:Nat):Int)=y:=by
     rw [←hy]
     show b.getD (i-a.length) _=_
     simp [List.getD,List.getElem?_append_right (show a.length≤i by omega)]
    simp only [vfb,w0,c0,show ¬(i:Int)<(a.length:Int) by omega,decide_true,decide_false,cond_true,cond_false,w1,if_pos (show 0≤((i-a.length:Nat):Int)∧((i-a.length:Nat):Int)<(b.length:Int) by omega),hyb,vtt ha hb]
    cases (!decide (y.2.2.2>snap)||vc3 a b y.2.2.2)
    ·rfl
    ·simp only [cond_true,Sum.elim_inr,w]
  simp only [vaf,hstep,List.all_cons]
  cases (!decide (y.2.2.2>snap)||vc3 a b y.2.2.2)
  ·exact⟨(i:Int),fun K=>rfl⟩
  ·refine⟨j,fun K=>?_⟩
   simp only [cond_true,Sum.elim_inl,Bool.true_and]
   exact hj K
theorem v1t {a b:List tVersion.D}(ha:a.length≤1048576)(hb:b.length≤1048576)(snap:Int) (k):vqw a b snap k=k (vi1 a b snap):=by
 rw [vwl]
 unfold vuc vi1
 have hA:∀k,vrh k=k allR:=fun k=>by rw [vw1];rfl
 have hs:=vfy a allR snap
 obtain⟨j,hj⟩:=vqv ha hb (snap:=snap) (a++b) 0 Fuel rfl (Nat.lt_of_lt_of_le (by rw [List.length_append];omega) vcf)
 have hz:((0:Nat):Int)=0:=rfl
 rw [hz]at hj
 simp only [hA,vrv ha,vrv hb,vv1 (show (vhj a allR snap).length≤1048576 by omega),hj]
 rw [show vl9 (vhj a allR snap) (vhj b allR snap)=vc3 a b snap from rfl]
 cases vc3 a b snap
 ·rfl
 ·simp only [Bool.not_true,cond_false,Bool.true_and]
  cases (a++b).all (fun v=>!decide (v.2.2.2>snap)||vc3 a b v.2.2.2)<;>rfl
end
end Go.VE
/- The plain laws. -/
namespace Go.VE
set_option linter.unusedVariables false
set_option linter.unusedSimpArgs false
set_option maxRecDepth 100000
theorem vib (x:(Ty.slice tVersion).D)(y:(Ty.slice tVersion).D)(z:Int)(hx:(Ty.slice tVersion).wf x)(hy:(Ty.slice tVersion).wf y)(hz:(Ty.int .i64).wf z)(k:Bool→Option Res):vtr x y z k=k true:=by
 rw [vws]
 unfold vug
 obtain⟨r0,q0,p0⟩:=viv hx (a:=1048576) (by omega) (by omega)
 rw [q0]
 rcases p0 with p0|⟨p0,e0⟩
 ·simp [p0]
 have c0:¬r0<0:=by omega
 simp only [c0,decide_false,cond_false]
 obtain⟨r1,q1,p1⟩:=viv hy (a:=r0) p0 (by omega)
 rw [q1]
 rcases p1 with p1|⟨p1,e1⟩
 ·simp [p1]
 have c1:¬r1<0:=by omega
 simp only [c1,decide_false,cond_false]
 have wx:(Ty.slice tVersion).wt x≤1048576:=by omega
 have wy:(Ty.slice tVersion).wt y≤1048576:=by omega
 have lx:=v1b wx
 have ly:=v1b wy
 simp only [vir lx,vir ly,v1t lx ly,v1u lx ly,vgc lx,vgc ly,beq_self_eq_true,Bool.not_true,cond_false]
end Go.VE
