/- The plain laws behind FnExactScanAt. -/
import Derived.Test.YtcccpkohlkfhoaaScanAtL
import Derived.Test.YtcccpkohlkfhoaaU28
/- Plain laws: keys,ranges,writes,transactions,who is ahead of whom. -/
namespace Go.VE
noncomputable section
set_option linter.unusedVariables false
set_option linter.unusedSimpArgs false
set_option maxRecDepth 100000
def vbo (r:tRange.D)(key:ByteArray):Bool:=!(vad key r.1)&&(vad key r.2||va9 key r.2)
theorem v1e (r:tRange.D) (key) (k):vnj r key k=k (vbo r key):=by
 rw [vyc];unfold vuu vbo;cases vad key r.1<;>rfl
theorem v1d (r:tRange.D) (key) (k):vmv r key k=k (vbo r key):=by
 rw [vv9];unfold vty vbo;cases vad key r.1<;>rfl
end
end Go.VE
/- Plain laws: one of a list that passes a test;what is seen;the oldest. -/
namespace Go.VE
noncomputable section
set_option linter.unusedVariables false
set_option linter.unusedSimpArgs false
set_option maxRecDepth 100000
def zV:tVersion.D:=Ty.zero tVersion
def vbw (u0:List tVersion.D)(key:ByteArray)(snap:Int):List tVersion.D→Int→Nat→Int
 |[],s,_=>s
 |y::l,s,i=>bif va9 y.1 key&&(decide (y.2.2.2≤snap)&&(decide (s<0)||decide (y.2.2.2>(rd zV u0 s).2.2.2)))then vbw u0 key snap l (i:Int) (i+1)else vbw u0 key snap l s (i+1)
def vcg (xs:List tVersion.D)(key:ByteArray)(snap:Int):Int:=vbw xs key snap xs (-1) 0
theorem vjj {u0 u1 u2} {u4}:∀(l:List tVersion.D)(s:Int)(i:Nat),u0.drop i=l→(s<0∨0≤s∧s<(u0.length:Int))→
  ∃j:Int,(∀k,vda u0 u1 u2 u4 l s i k=k (vbw u0 u1 u2 l s i,j))∧(vbw u0 u1 u2 l s i<0∨0≤vbw u0 u1 u2 l s i∧vbw u0 u1 u2 l s i<(u0.length:Int))
 |[],s,i,_,hs=>⟨_,fun k=>rfl,hs⟩
 |y::l,s,i,h,hs=>by
  have hlt:=vcr h
  obtain⟨j1,hj1,b1⟩:=vjj (u0:=u0) (u1:=u1) (u2:=u2) (u4:=u4) l s (i+1) (vap h) hs
  obtain⟨j2,hj2,b2⟩:=vjj (u0:=u0) (u1:=u1) (u2:=u2) (u4:=u4) l (i:Int) (i+1) (vap h) (.inr (by omega))
  have hz:(Ty.zero tVersion)=zV:=rfl
  simp only [vda,hj1,hj2,vbw,hz]
  cases va9 y.1 u1
  ·exact⟨j1,fun k=>rfl,b1⟩
  ·cases decide (y.2.2.2≤u2)
   ·exact⟨j1,fun k=>rfl,b1⟩
   ·by_cases c:s<0
    ·simp only [c,decide_true,cond_true,Bool.true_or,Bool.and_self];exact⟨j2,fun k=>rfl,b2⟩
    ·simp only [c,decide_false,cond_true,cond_false,Bool.false_or,Bool.true_and]
     simp only [if_pos (show 0≤s∧s<(u0.length:Int) by omega)]
     cases decide (y.2.2.2>(rd zV u0 s).2.2.2)
     ·exact⟨j1,fun k=>rfl,b1⟩
     ·exact⟨j2,fun k=>rfl,b2⟩
theorem v1p {xs:List tVersion.D}(hl:xs.length≤1048576) (key) (snap) (k):vmw xs key snap k=k (vcg xs key snap):=by
 rw [v2w (by omega)]
 unfold vw3 vcg
 obtain⟨j,hj,_⟩:=vjj (u0:=xs) (u1:=key) (u2:=snap) (u4:=xs) xs (-1) 0 rfl (.inl (by omega))
 rw [hj]
theorem vjh {u0 u1 u2}  : ∀(l:List tVersion.D)(s:Int)(i:Nat),u0.drop i=l→(s<0∨0≤s∧s<(u0.length:Int))→
  ∃j:Int,(∀k,vdd u0 u1 u2  l s i k=k (vbw u0 u1 u2 l s i,j))∧(vbw u0 u1 u2 l s i<0∨0≤vbw u0 u1 u2 l s i∧vbw u0 u1 u2 l s i<(u0.length:Int))
 |[],s,i,_,hs=>⟨_,fun k=>rfl,hs⟩
 |y::l,s,i,h,hs=>by
  have hlt:=vcr h
  obtain⟨j1,hj1,b1⟩:=vjh (u0:=u0) (u1:=u1) (u2:=u2)  l s (i+1) (vap h) hs
  obtain⟨j2,hj2,b2⟩:=vjh (u0:=u0) (u1:=u1) (u2:=u2)  l (i:Int) (i+1) (vap h) (.inr (by omega))
  have hz:(Ty.zero tVersion)=zV:=rfl
  simp only [vdd,hj1,hj2,vbw,hz]
  cases va9 y.1 u1
  ·exact⟨j1,fun k=>rfl,b1⟩
  ·cases decide (y.2.2.2≤u2)
   ·exact⟨j1,fun k=>rfl,b1⟩
   ·by_cases c:s<0
    ·simp only [c,decide_true,cond_true,Bool.true_or,Bool.and_self];exact⟨j2,fun k=>rfl,b2⟩
    ·simp only [c,decide_false,cond_true,cond_false,Bool.false_or,Bool.true_and]
     simp only [if_pos (show 0≤s∧s<(u0.length:Int) by omega)]
     cases decide (y.2.2.2>(rd zV u0 s).2.2.2)
     ·exact⟨j1,fun k=>rfl,b1⟩
     ·exact⟨j2,fun k=>rfl,b2⟩
theorem v1u {xs:List tVersion.D}(hl:xs.length≤1048576) (key) (snap) (k):vm4 xs key snap k=k (vcg xs key snap):=by
 rw [v2n (by omega)]
 unfold vwe vcg
 obtain⟨j,hj,_⟩:=vjh (u0:=xs) (u1:=key) (u2:=snap)  xs (-1) 0 rfl (.inl (by omega))
 rw [hj]
theorem vfi {u0:List tVersion.D}{key:ByteArray}{snap:Int}:∀(l:List tVersion.D)(s:Int)(i:Nat),i+l.length≤u0.length→(s<0∨0≤s∧s<(u0.length:Int))→(vbw u0 key snap l s i<0∨0≤vbw u0 key snap l s i∧vbw u0 key snap l s i<(u0.length:Int))
 |[],s,i,_,hs=>hs
 |y::l,s,i,h,hs=>by
  simp only [List.length_cons]at h
  simp only [vbw]
  cases (va9 y.1 key&&(decide (y.2.2.2≤snap)&&(decide (s<0)||decide (y.2.2.2>(rd zV u0 s).2.2.2))))
  ·exact vfi l s (i+1) (by omega) hs
  ·exact vfi l (i:Int) (i+1) (by omega) (.inr (by omega))
theorem viu (xs:List tVersion.D)(key:ByteArray)(snap:Int):vcg xs key snap<0∨0≤vcg xs key snap∧vcg xs key snap<(xs.length:Int):=
 vfi xs (-1) 0 (by omega) (.inl (by omega))
def vcb (xs:List tVersion.D)(key:ByteArray)(snap:Int):ByteArray×Bool:=
 bif decide (vcg xs key snap<0)then(⟨#[]⟩,false)else bif (rd zV xs (vcg xs key snap)).2.2.1 then(⟨#[]⟩,false)else((rd zV xs (vcg xs key snap)).2.1,true)
theorem vse {xs:List tVersion.D}(hl:xs.length≤1048576) (key) (snap) (k):vp0 xs key snap k=k (vcb xs key snap):=by
 have hb:=viu xs key snap
 have hz:(Ty.zero tVersion)=zV:=rfl
 rw [vyg]
 unfold vtp vcb
 simp only [v1p hl,hz]
 by_cases c:vcg xs key snap<0
 ·simp only [c,decide_true,cond_true]
 ·simp only [c,decide_false,cond_false]
  rw [if_pos (by omega)]
  cases (rd zV xs (vcg xs key snap)).2.2.1
  ·simp only [cond_false];rw [if_pos (by omega)]
  ·rfl
theorem vwf {xs:List tVersion.D}(hl:xs.length≤1048576) (key) (snap) (k):vq0 xs key snap k=k (vcb xs key snap):=by
 have hb:=viu xs key snap
 have hz:(Ty.zero tVersion)=zV:=rfl
 rw [vwi]
 unfold vut vcb
 simp only [v1u hl,hz]
 by_cases c:vcg xs key snap<0
 ·simp only [c,decide_true,cond_true]
 ·simp only [c,decide_false,cond_false]
  rw [if_pos (by omega)]
  cases (rd zV xs (vcg xs key snap)).2.2.1
  ·simp only [cond_false];rw [if_pos (by omega)]
  ·rfl
end
end Go.VE
/- Plain laws: where a name or an Id stands;a transaction's text. -/
namespace Go.VE
noncomputable section
set_option linter.unusedVariables false
set_option linter.unusedSimpArgs false
set_option maxRecDepth 100000
theorem vqc {a b:ByteArray}(h:a.data.toList=b.data.toList):a=b:=by
 cases a;cases b;congr 1;exact Array.toList_inj.mp h
theorem vi9 {a b:ByteArray}(h:va9 a b=true):a=b:=by
 rw [vhe,beq_iff_eq,ByteArray.toList_eq,ByteArray.toList_eq]at h
 exact vqc h
end
end Go.VE
/- Plain laws of the draws: each gives,whatever the bytes. -/
namespace Go.VE
noncomputable section
set_option linter.unusedVariables false
set_option linter.unusedSimpArgs false
set_option maxRecDepth 100000
def Gives {α:Type}(F:(α→Option Res)→Option Res)(Q:α→Prop):Prop:=∃v,Q v∧∀k,F k=k v
theorem vgm {α:Type}{v:α}{Q:α→Prop}(h:Q v):Gives (fun k=>k v) Q:=⟨v,h,fun _=>rfl⟩
theorem Gives.bind {α β:Type}{F:(β→Option Res)→Option Res}{R:β→Prop}(hF:Gives F R){H:β→(α→Option Res)→Option Res}{Q:α→Prop}(hH:∀v,R v→Gives (H v) Q):Gives (fun k=>F fun v=>H v k) Q:=by
 obtain⟨v,h1,h2⟩:=hF
 obtain⟨y,h3,h4⟩:=hH v h1
 exact⟨y,h3,fun k=>(h2 _).trans (h4 k)⟩
theorem vl3 {α:Type}{c:Bool}{F G:(α→Option Res)→Option Res}{Q:α→Prop}(hF:c=true→Gives F Q)(hG:c=false→Gives G Q):Gives (fun k=>bif c then F k else G k) Q:=by
 cases c
 ·exact hG rfl
 ·exact hF rfl
theorem vq1 {α:Type}{c:Prop} [Decidable c]{F:(α→Option Res)→Option Res}{Q:α→Prop}(hc:c)(hF:Gives F Q):Gives (fun k=>if c then F k else none) Q:=by
 simp only [hc,if_true];exact hF
theorem Gives.mono {α:Type}{F:(α→Option Res)→Option Res}{Q R:α→Prop}(h:Gives F Q)(hq:∀v,Q v→R v):Gives F R:=by
 obtain⟨v,h1,h2⟩:=h
 exact⟨v,hq v h1,h2⟩
theorem vnx {β γ:Type}{b:β→(β⊕γ→Option Res)→Option Res}{x:β}{n:Nat}{Q:γ→Prop}(h:Gives (b x) (fun r=>(∀y,r = .inl y→Gives (vag b n y) Q)∧∀z,r = .inr z→Q z)):Gives (vag b (n+1) x) Q:=by
 obtain⟨v,h1,h2⟩:=h
 cases v with
 |inl y=>
  obtain⟨w,h3,h4⟩:=h1.1 y rfl
  exact⟨w,h3,fun k=>by rw [vag,h2];exact h4 k⟩
 |inr z=>exact⟨z,h1.2 z rfl,fun k=>by rw [vag,h2];rfl⟩
theorem v3r {β γ:Type}{Q:γ→Prop}{G:β→Prop}{y:β}(h:G y):(∀x,(Sum.inl y:β⊕γ) = .inl x→G x)∧∀z,(Sum.inl y:β⊕γ) = .inr z→Q z:=⟨fun _ e=>by cases e;exact h,fun _ e=>(nomatch e)⟩
theorem v0o {β γ:Type}{Q:γ→Prop}{G:β→Prop}{z:γ}(h:Q z):(∀x,(Sum.inr z:β⊕γ) = .inl x→G x)∧∀w,(Sum.inr z:β⊕γ) = .inr w→Q w:=⟨fun _ e=>(nomatch e),fun _ e=>by cases e;exact h⟩
end
end Go.VE
/- Plain laws of the marks: what is marked in place is held. -/
namespace Go.VE
noncomputable section
set_option linter.unusedVariables false
set_option linter.unusedSimpArgs false
set_option maxRecDepth 100000
theorem vh5 (n:Int):(vhu [n]).size=1:=rfl
theorem vpc:∀(m:Nat)(n:Int)(s:ByteArray)(q:Nat),n≤m→m<q→s.size+m≤100000000→Gives (vag vid q (n,s)) (fun z=>z.2.size≤s.size+m):=by
 intro m
 induction m with
 |zero=>
  intro n s q hn hq hs
  obtain⟨q,rfl⟩:∃r,q=r+1:=⟨q-1,by omega⟩
  apply vnx
  unfold vid
  exact vl3 (fun c=>by have c:=of_decide_eq_true c;dsimp only at c;omega) (fun _=>vgm (v0o (by dsimp only;omega)))
 |succ m ih=>
  intro n s q hn hq hs
  obtain⟨q,rfl⟩:∃r,q=r+1:=⟨q-1,by omega⟩
  apply vnx
  unfold vid
  refine vl3 (fun c=>vq1 ?_ (vgm (v3r ?_))) (fun _=>vgm (v0o (by dsimp only;omega)))
  ·rw [vh5];dsimp only;omega
  ·have c:=of_decide_eq_true c
   dsimp only at c
   have e:n.tdiv 10=n / 10:=Int.tdiv_eq_ediv_of_nonneg (by omega)
   dsimp only
   rw [e,ve2 (by omega) (by omega)]
   refine(ih (n / 10) _ q (by omega) (by omega) (by rw [ByteArray.size_append,vh5];omega)).mono (fun z hz=>?_)
   rw [ByteArray.size_append,vh5]at hz
   omega
theorem vvn {n:Int}(h:n≤10000000):Gives (vdz n) (fun _=>True):=by
 rw [vxv]
 unfold vuv
 refine vl3 (fun _=>vgm trivial) (fun _=>(vpc 10000000 n _ Fuel (by omega) (by have:=vb6;omega) (by decide)).bind (fun z hz=>vq1 ?_ (vgm trivial)))
 have:(⟨#[109]⟩:ByteArray).size=1:=rfl
 have:(⟨#[]⟩:ByteArray).size=0:=rfl
 omega
open Classical in
def vu5 (n:Int):ByteArray:=if h:∃v,∀k,vdz n k=k v then Classical.choose h else⟨#[]⟩
theorem vcs {n:Int}(h:n≤10000000) (k):vdz n k=k (vu5 n):=by
 obtain⟨v,_,hv⟩:=vvn h
 have h1:∃v,∀k,vdz n k=k v:=⟨v,hv⟩
 unfold vu5
 rw [dif_pos h1]
 exact Classical.choose_spec h1 k
theorem v1j {α:Type}(pre:List α)(y v:α)(l:List α):(pre++y::l).set pre.length v=pre++v::l:=by simp
theorem v0e {α:Type}(pre:List α)(y d:α)(l:List α):(pre++y::l).getD pre.length d=y:=by simp [List.getD]
def vki:Int→List tRange.D→List tRange.D
 |_,[]=>[]
 |c,y::l=>(vu5 c,vu5 (c+1))::vki (c+2) l
end
end Go.VE
/- Plain laws: a transaction's marks. -/
namespace Go.VE
noncomputable section
set_option linter.unusedVariables false
set_option linter.unusedSimpArgs false
set_option maxRecDepth 100000
theorem vj1:∀(c:Int)(l:List tRange.D),(vki c l).length=l.length
 |_,[]=>rfl
 |c,y::l=>by simp [vki,vj1 (c+2) l]
end
end Go.VE
/- Plain laws: keys in order;what a scan sees. -/
namespace Go.VE
noncomputable section
set_option linter.unusedVariables false
set_option linter.unusedSimpArgs false
set_option maxRecDepth 100000
theorem vhb (x y:ByteArray):vad x y=decide (x.data.toList<y.data.toList):=by
 rw [vdn,ByteArray.toList_eq,ByteArray.toList_eq]
 exact Go.Proofs.bytesLess_eq _ _
theorem vd6 (x:ByteArray):vad x x=false:=by
 rw [vhb];exact decide_eq_false (List.lt_irrefl _)
theorem vhz {x y z:ByteArray}(h1:vad x y=true)(h2:vad y z=true):vad x z=true:=by
 rw [vhb]at *
 exact decide_eq_true (List.lt_trans (of_decide_eq_true h1) (of_decide_eq_true h2))
theorem vry {x y:ByteArray}(h:vad x y=true):vad y x=false:=by
 cases h2:vad y x
 ·rfl
 ·have:=vhz h h2
  rw [vd6]at this
  cases this
theorem vj3 {x y:ByteArray}(h1:vad x y=false)(h2:vad y x=false):x=y:=by
 rw [vhb]at *
 have a:=List.not_lt.1 (of_decide_eq_false h1)
 have b:=List.not_lt.1 (of_decide_eq_false h2)
 exact vqc (List.le_antisymm b a)
def Asc (l:List ByteArray):Prop:=l.Pairwise fun a b=>vad a b=true
theorem vxp:∀{l m:List ByteArray},Asc l→Asc m→(∀x,x∈l↔x∈m)→l=m
 |[],[],_,_,_=>rfl
 |[],b::m,_,_,h=>by have:=(h b).2 (by simp);cases this
 |a::l,[],_,_,h=>by have:=(h a).1 (by simp);cases this
 |a::l,b::m,hl,hm,h=>by
  obtain⟨h1,h2⟩:=List.pairwise_cons.1 hl
  obtain⟨h3,h4⟩:=List.pairwise_cons.1 hm
  have hab:a=b:=by
   rcases List.mem_cons.1 ((h a).1 (by simp))with e|e
   ·exact e
   ·rcases List.mem_cons.1 ((h b).2 (by simp))with e2|e2
    ·exact e2.symm
    ·have x1:=h3 a e
     have x2:=h1 b e2
     rw [vry x1]at x2
     cases x2
  subst hab
  rw [vxp h2 h4 (fun x=>⟨fun hx=>by
   rcases List.mem_cons.1 ((h x).1 (by simp [hx]))with e|e
   ·subst e;have:=h1 x hx;rw [vd6]at this;cases this
   ·exact e,fun hx=>by
   rcases List.mem_cons.1 ((h x).2 (by simp [hx]))with e|e
   ·subst e;have:=h3 x hx;rw [vd6]at this;cases this
   ·exact e⟩)]
def ddT (p:ByteArray):List ByteArray→List ByteArray
 |[]=>[]
 |y::l=>bif va9 y p then ddT y l else y::ddT y l
def dd:List ByteArray→List ByteArray
 |[]=>[]
 |a::l=>a::ddT a l
theorem vw9:∀(l:List ByteArray)(p:ByteArray),(p::l).Pairwise (fun a b=>vad b a=false)→Asc (p::ddT p l)∧∀x,x∈p::ddT p l↔x∈p::l
 |[],p,_=>⟨List.pairwise_singleton _ _,fun x=>Iff.rfl⟩
 |y::l,p,h=>by
  obtain⟨h1,h2⟩:=List.pairwise_cons.1 h
  obtain⟨i1,i2⟩:=vw9 l y h2
  simp only [ddT]
  cases he:va9 y p
  ·have hne:y≠p:=fun e=>by rw [e,ve5]at he;cases he
   have hlt:vad p y=true:=by
    cases hh:vad p y
    ·exact absurd (vj3 (h1 y (by simp)) hh) hne
    ·rfl
   refine⟨List.pairwise_cons.2 ⟨fun x hx=>?_,i1⟩,fun x=>?_⟩
   ·rcases List.mem_cons.1 hx with e|e
    ·rw [e];exact hlt
    ·exact vhz hlt ((List.pairwise_cons.1 i1).1 x e)
   ·simp only [cond_false,List.mem_cons]
    have:=i2 x
    simp only [List.mem_cons]at this
    rw [this]
  ·have e:=vi9 he
   subst e
   refine⟨i1,fun x=>?_⟩
   simp only [cond_true]
   rw [i2 x]
   simp
theorem v07 {l:List ByteArray}(h:l.Pairwise fun a b=>vad b a=false):Asc (dd l)∧∀x,x∈dd l↔x∈l:=by
 cases l with
 |nil=>exact⟨List.Pairwise.nil,fun x=>Iff.rfl⟩
 |cons a l=>exact vw9 l a h
theorem vqh (xs:List ByteArray):(vfm xs).Pairwise (fun a b=>vad b a=false)∧∀x,x∈vfm xs↔x∈xs:=by
 unfold vfm
 constructor
 ·rw [List.pairwise_map]
  have:=List.pairwise_mergeSort (le:=fun x y:List UInt8=>decide (x≤y)) (fun a b c h1 h2=>decide_eq_true (List.le_trans (of_decide_eq_true h1) (of_decide_eq_true h2))) (fun a b=>by
   rcases List.le_total a b with h|h
   ·simp [h]
   ·simp [h]) (xs.map fun x=>x.data.toList)
  refine this.imp ?_
  intro a b hab
  rw [vhb]
  exact decide_eq_false (List.not_lt.2 (of_decide_eq_true hab))
 ·intro x
  have hp:=List.mergeSort_perm (xs.map fun x=>x.data.toList) (fun x y=>decide (x≤y))
  simp only [List.mem_map,hp.mem_iff]
  constructor
  ·rintro⟨l,⟨y,hy,rfl⟩,rfl⟩
   exact hy
  ·intro hx
   exact⟨x.data.toList,⟨x,hx,rfl⟩,rfl⟩
def insK (out:List ByteArray)(k:ByteArray):List ByteArray:=(out.filter fun y=>vad y k)++k::out.filter fun y=>!(vad y k||va9 y k)
theorem vux {out:List ByteArray}(h:Asc out)(k:ByteArray):Asc (insK out k)∧∀x,x∈insK out k↔x=k∨x∈out:=by
 have gt:∀y,(!(vad y k||va9 y k))=true→vad k y=true:=by
  intro y hy
  simp only [Bool.not_eq_true',Bool.or_eq_false_iff]at hy
  cases hh:vad k y
  ·have:=vj3 hy.1 hh
   rw [this,ve5]at hy
   cases hy.2
  ·rfl
 constructor
 ·unfold insK Asc
  rw [List.pairwise_append]
  refine⟨List.Pairwise.filter _ h,List.pairwise_cons.2 ⟨fun x hx=>gt x (List.mem_filter.1 hx).2,List.Pairwise.filter _ h⟩,fun a ha b hb=>?_⟩
  have ha':=(List.mem_filter.1 ha).2
  rcases List.mem_cons.1 hb with e|e
  ·rw [e];exact ha'
  ·exact vhz ha' (gt b (List.mem_filter.1 e).2)
 ·intro x
  unfold insK
  simp only [List.mem_append,List.mem_cons,List.mem_filter]
  constructor
  ·rintro(⟨h1,_⟩|h1|⟨h1,_⟩)
   ·exact .inr h1
   ·exact .inl h1
   ·exact .inr h1
  ·rintro(h1|h1)
   ·exact .inr (.inl h1)
   ·cases h2:vad x k
    ·cases h3:va9 x k
     ·exact .inr (.inr ⟨h1,by simp [h2,h3]⟩)
     ·exact .inr (.inl (vi9 h3))
    ·exact .inl ⟨h1,rfl⟩
def vjk (r:tRange.D):List tVersion.D→List ByteArray→List ByteArray
 |[],out=>out
 |v::l,out=>vjk r l (bif vbo r v.1 then insK out v.1 else out)
theorem vip (r:tRange.D):∀(l:List tVersion.D)(out:List ByteArray),Asc out→Asc (vjk r l out)∧∀x,x∈vjk r l out↔x∈out∨(vbo r x=true∧x∈l.map fun v=>v.1)
 |[],out,h=>⟨h,fun x=>by simp [vjk]⟩
 |v::l,out,h=>by
  simp only [vjk]
  cases hr:vbo r v.1
  ·obtain⟨i1,i2⟩:=vip r l out h
   refine⟨i1,fun x=>?_⟩
   rw [cond_false,i2 x]
   simp only [List.map_cons,List.mem_cons]
   constructor
   ·rintro(a|⟨a,b⟩)
    ·exact .inl a
    ·exact .inr ⟨a,.inr b⟩
   ·rintro(a|⟨a,b|b⟩)
    ·exact .inl a
    ·rw [b,hr]at a;cases a
    ·exact .inr ⟨a,b⟩
  ·obtain⟨j1,j2⟩:=vux h v.1
   obtain⟨i1,i2⟩:=vip r l (insK out v.1) j1
   refine⟨i1,fun x=>?_⟩
   rw [cond_true,i2 x,j2 x]
   simp only [List.map_cons,List.mem_cons]
   constructor
   ·rintro((a|a)|⟨a,b⟩)
    ·exact .inr ⟨by rw [a];exact hr,.inl a⟩
    ·exact .inl a
    ·exact .inr ⟨a,.inr b⟩
   ·rintro(a|⟨a,b|b⟩)
    ·exact .inl (.inr a)
    ·exact .inl (.inl b)
    ·exact .inr ⟨a,b⟩
def vvb (l:List tVersion.D):List ByteArray:=dd (vfm (l.map fun v=>v.1))
theorem vxk (r:tRange.D)(l:List tVersion.D):(vvb l).filter (fun k=>vbo r k)=vjk r l []:=by
 obtain⟨s1,s2⟩:=vqh (l.map fun v=>v.1)
 obtain⟨d1,d2⟩:=v07 s1
 obtain⟨k1,k2⟩:=vip r l [] List.Pairwise.nil
 refine vxp (List.Pairwise.filter _ d1) k1 (fun x=>?_)
 rw [List.mem_filter,k2 x]
 unfold vvb
 rw [d2 x,s2 x]
 constructor
 ·rintro⟨a,b⟩;exact .inr ⟨b,a⟩
 ·rintro(a|⟨a,b⟩)
  ·cases a
  ·exact⟨b,a⟩
end
end Go.VE
/- Plain laws: scans. -/
namespace Go.VE
noncomputable section
set_option linter.unusedVariables false
set_option linter.unusedSimpArgs false
set_option maxRecDepth 100000
theorem vim {α:Type}(y:α):∀(S:List α)(i:Nat),i<S.length→(S.set i y).take (i+1)=S.take i++[y]
 |[],i,h=>by simp at h
 |a::S,0,h=>by simp
 |a::S,i+1,h=>by
  have:=vim y S i (by simpa using h)
  simp only [List.set_cons_succ,List.take_succ_cons,this,List.cons_append]
theorem vlw {α:Type}(y:α):∀(S:List α)(i n:Nat),i<n→(S.set i y).drop n=S.drop n
 |[],i,n,h=>by simp
 |a::S,0,n+1,h=>by simp
 |a::S,i+1,n+1,h=>by simpa using vlw y S i n (by omega)
 |a::S,i,0,h=>by omega
theorem vjb {st:Nat}:∀(l S:List ByteArray)(i k2 q:Nat)(p:ByteArray),S.drop (st+k2)=l→1≤k2→i+1≤st+k2→st+k2≤S.length→S.length≤3000000→l.length<q→S.getD (st+(k2-1)) (Ty.zero .str)=p→
  ∃(i':Nat) (k':Int) (S':List ByteArray),S'.length=S.length∧i'≤S'.length∧S'.take i'=S.take i++ddT p l∧∀K,vag vfc q ((i:Int),st,(k2:Int),S) K=K ((i':Int),st,k',S')
 |l,S,i,k2,0,p,_,_,_,_,_,h,_=>by omega
 |[],S,i,k2,q+1,p,hd,h1,hi,hs,hS,_,hp=>by
  have hge:S.length≤st+k2:=by
   have:=congrArg List.length hd
   rw [List.length_drop]at this
   simp at this
   omega
  refine⟨i,(k2:Int),S,rfl,by omega,by simp [ddT],fun K=>?_⟩
  simp only [vag,vfc,show ¬(k2:Int)<(S.length:Int)-(st:Int) by omega,decide_false,cond_false,Sum.elim_inr]
 |y::l,S,i,k2,q+1,p,hd,h1,hi,hs,hS,hq,hp=>by
  have hlt:=vcr hd
  have hy:S.getD (st+k2) (Ty.zero .str)=y:=(vbq hd).2 _
  have w1:IntKind.wrap .i64 ((k2:Int)-1)=((k2-1:Nat):Int):=by rw [ve2 (by omega) (by omega)];omega
  have w2:IntKind.wrap .i64 ((k2:Int)+1)=((k2+1:Nat):Int):=vbv (by omega)
  have w3:IntKind.wrap .i64 ((i:Int)+1)=((i+1:Nat):Int):=vbv (by omega)
  have c1:(k2:Int)<(S.length:Int)-(st:Int):=by omega
  have c2:(0:Int)≤(k2:Int):=by omega
  have c3:(0:Int)≤((k2-1:Nat):Int):=by omega
  have c4:((k2-1:Nat):Int)<(S.length:Int)-(st:Int):=by omega
  have c5:(0:Int)≤(i:Int):=by omega
  have c6:(i:Int)<(S.length:Int):=by omega
  cases he:va9 y p
  ·obtain⟨i',k',S',e1,e2,e3,e4⟩:=vjb (st:=st) l (S.set i y) (i+1) (k2+1) q y (by rw [vlw y S i _ (by omega)];exact vap hd) (by omega) (by omega) (by rw [List.length_set];omega) (by rw [List.length_set];omega) (by simpa using hq)
    (by rw [show st+(k2+1-1)=st+k2 by omega];rw [←hy];simp only [List.getD,List.getElem?_set_ne (show i≠st+k2 by omega)])
   refine⟨i',k',S',by rw [e1,List.length_set],e2,?_,fun K=>?_⟩
   ·rw [e3,vim y S i (by omega),List.append_assoc]
    simp only [ddT,he,cond_false,List.singleton_append]
   ·simp only [vag,vfc,c1,c2,c3,c4,c5,c6,w1,decide_true,cond_true,and_self,if_true,Int.toNat_natCast,hy,hp,he,Bool.not_false,Sum.elim_inl,w2,w3]
    exact e4 K
  ·have hyp:=vi9 he
   obtain⟨i',k',S',e1,e2,e3,e4⟩:=vjb (st:=st) l S i (k2+1) q y (vap hd) (by omega) (by omega) (by omega) hS (by simpa using hq) (by rw [show st+(k2+1-1)=st+k2 by omega];exact hy)
   refine⟨i',k',S',e1,e2,?_,fun K=>?_⟩
   ·rw [e3]
    simp only [ddT,he,cond_true]
   ·simp only [vag,vfc,c1,c2,c3,c4,w1,decide_true,cond_true,and_self,if_true,Int.toNat_natCast,hy,hp,he,Bool.not_true,cond_false,Sum.elim_inl,w2]
    exact e4 K
theorem vne {T:List ByteArray}(hT:T.length≤3000000){r:List ByteArray}:∀(l:List ByteArray)(i q:Nat),T.drop i=l→1≤i→i≤T.length→l.length<q→
  (T=T.take i++ddT (T.getD (i-1) (Ty.zero .str)) l∧∃j:Int,∀K,vag vek q ((i:Int),T,r) K=K (.inl (j,T,r)))∨
   ∃j:Int,∀K,vag vek q ((i:Int),T,r) K=K (.inr (j,T.take i++ddT (T.getD (i-1) (Ty.zero .str)) l))
 |l,i,0,_,_,_,h=>by omega
 |[],i,q+1,hd,h1,hi,_=>by
  have hge:=vca hd
  left
  have:T.take i=T:=List.take_of_length_le (by omega)
  refine⟨by rw [this];simp [ddT],(i:Int),fun K=>?_⟩
  simp only [vag,vek,hge,decide_false,cond_false,Sum.elim_inr]
 |y::l,i,q+1,hd,h1,hi,hq=>by
  have hlt:=vcr hd
  have hy:T.getD i (Ty.zero .str)=y:=(vbq hd).2 _
  have w1:IntKind.wrap .i64 ((i:Int)-1)=((i-1:Nat):Int):=by rw [ve2 (by omega) (by omega)];omega
  have w2:IntKind.wrap .i64 ((i:Int)+1)=((i+1:Nat):Int):=vbv (by omega)
  have c1:(i:Int)<(T.length:Int):=by omega
  have c2:(0:Int)≤(i:Int):=by omega
  have c3:(0:Int)≤((i-1:Nat):Int):=by omega
  have c4:((i-1:Nat):Int)<(T.length:Int):=by omega
  have c5:(i:Int)≤(T.length:Int):=by omega
  generalize hp:T.getD (i-1) (Ty.zero .str)=p
  cases he:va9 y p
  ·have htk:T.take (i+1)=T.take i++[y]:=by
    rw [List.take_succ_eq_append_getElem hlt]
    congr 2
    rw [←hy]
    simp [List.getD,hlt]
   have ih:=vne hT (r:=r) l (i+1) q (vap hd) (by omega) (by omega) (by simpa using hq)
   rw [show i+1-1=i by omega,hy,htk,List.append_assoc,List.singleton_append]at ih
   have hdd:ddT p (y::l)=y::ddT y l:=by simp only [ddT,he,cond_false]
   rw [hdd]
   rcases ih with⟨e,j,hj⟩|⟨j,hj⟩
   ·left
    refine⟨e,j,fun K=>?_⟩
    simp only [vag,vek,c1,c2,c3,c4,w1,decide_true,cond_true,and_self,if_true,Int.toNat_natCast,hy,hp,he,cond_false,Sum.elim_inl,w2]
    exact hj K
   ·right
    refine⟨j,fun K=>?_⟩
    simp only [vag,vek,c1,c2,c3,c4,w1,decide_true,cond_true,and_self,if_true,Int.toNat_natCast,hy,hp,he,cond_false,Sum.elim_inl,w2]
    exact hj K
  ·right
   obtain⟨i',k',S',e1,e2,e3,e4⟩:=vjb (st:=i) l T i 1 Fuel y (vap hd) (by omega) (by omega) (by omega) hT (by have:=vb6;have:=congrArg List.length hd;rw [List.length_drop]at this;simp only [List.length_cons]at this;omega) (by rw [show i+(1-1)=i by omega];exact hy)
   have hdd:ddT p (y::l)=ddT y l:=by simp only [ddT,he,cond_true]
   rw [hdd]
   refine⟨(i':Int),fun K=>?_⟩
   have e4':∀K,vag vfc Fuel ((i:Int),i,(1:Int),T) K=K ((i':Int),i,k',S'):=e4
   have d1:(0:Int)≤(i':Int):=by omega
   have d2:(i':Int)≤(S'.length:Int):=by omega
   have d3:(i':Int)≤((S'.take i'++List.replicate (S'.length-i') (Ty.zero .str)).length:Int):=by
    rw [List.length_append,List.length_take,List.length_replicate];omega
   have d4:(S'.take i'++List.replicate (S'.length-i') (Ty.zero .str)).take i'=S'.take i':=by
    rw [List.take_append_of_le_length (by rw [List.length_take];omega),List.take_take,Nat.min_self]
   rw [←e3]
   simp only [vag,vek,c1,c2,c3,c4,c5,w1,decide_true,cond_true,and_self,if_true,Int.toNat_natCast,hy,hp,he,e4',d1,d2,d3,d4,Sum.elim_inr]
theorem vje {T:List ByteArray}(hT:T.length≤3000000):(∀k,vlt T k=k (.inl (dd T)))∨(∀k,vlt T k=k (.inr (dd T))):=by
 rw [vwd]
 unfold vub
 match T,hT with
 |[],_=>exact .inl fun k=>rfl
 |[a],_=>exact .inl fun k=>rfl
 |a::b::l,hT=>
  have hn:¬(((a::b::l).length:Int)<2):=by simp only [List.length_cons];omega
  have h:=vne hT (r:=[]) (b::l) 1 Fuel rfl (by omega) (by simp) (by have:=vb6;simp only [List.length_cons]at hT ⊢;omega)
  have hd:(a::b::l).take 1++ddT ((a::b::l).getD (1-1) (Ty.zero .str)) (b::l)=dd (a::b::l):=rfl
  rw [hd]at h
  have h1:((1:Nat):Int)=1:=rfl
  rw [h1]at h
  simp only [hn,decide_false,cond_false]
  rcases h with⟨e,j,hj⟩|⟨j,hj⟩
  ·left
   intro k
   rw [hj]
   simp only [Sum.elim_inl]
   rw [←e]
  ·right
   intro k
   rw [hj]
   rfl
theorem vm1 {u0}:∀(l:List tVersion.D)(s:List ByteArray)(i:Nat),s.length+l.length≤3000000→∃j:Int,∀k,vfg u0 l s i k=k (j,s++l.map fun v=>v.1)
 |[],s,i,_=>⟨_,fun k=>by simp [vfg];rfl⟩
 |y::l,s,i,h=>by
  simp only [List.length_cons]at h
  obtain⟨j,hj⟩:=vm1 (u0:=u0) l (s++[y.1]) (i+1) (by simp;omega)
  refine⟨j,fun k=>?_⟩
  have hm:s.length+[y.1].length≤VE.maxLen:=by show _≤4294967296;simp;omega
  simp only [vfg,if_pos hm,hj,List.map_cons,List.append_assoc,List.singleton_append]
theorem v1w {l:List tVersion.D}(hl:l.length≤1048576) (k):vnb l k=k (vvb l):=by
 rw [v2x (by omega)]
 unfold vwq
 obtain⟨j,hj⟩:=vm1 (u0:=l) l [] 0 (by simp;omega)
 have hs:∀xs:List ByteArray,xs.length≤1000000000→∀k,vmo xs k=k (vfm xs):=fun xs h k=>by
  rw [vwl]
  unfold vpp
  rw [if_pos h]
 rw [hj]
 simp only [List.nil_append]
 rw [hs _ (by rw [List.length_map];omega)]
 rcases vje (T:=vfm (l.map fun v=>v.1)) (by rw [veb,List.length_map];omega)with h|h<;>rw [h]<;>rfl
end
end Go.VE
/- Plain laws: what scans see. -/
namespace Go.VE
noncomputable section
set_option linter.unusedVariables false
set_option linter.unusedSimpArgs false
set_option maxRecDepth 100000
theorem vrt {u0:List tVersion.D}{u1:Int}{ky r1 r2:ByteArray}{out:List ByteArray}(ho:out.length≤1048576):∀(l acc:List ByteArray)(j q:Nat),out.drop j=l→l.length<q→acc.length+l.length≤3000000→∃j':Int,∀K,
  vag vgt q (u0,u1,ky,(j:Int),r1,r2,out,acc) K=K (u0,u1,ky,j',r1,r2,out,acc++l.filter fun y=>vad y ky)
 |l,acc,j,0,_,h,_=>by omega
 |[],acc,j,q+1,hd,_,_=>by
  have hge:=vca hd
  refine⟨(j:Int),fun K=>?_⟩
  simp only [vag,vgt,hge,decide_false,cond_false,Sum.elim_inr,List.filter_nil,List.append_nil]
 |y::l,acc,j,q+1,hd,hq,ha=>by
  simp only [List.length_cons]at ha
  have hlt:=vcr hd
  have hy:out.getD j (Ty.zero .str)=y:=(vbq hd).2 _
  have w:IntKind.wrap .i64 ((j:Int)+1)=((j+1:Nat):Int):=vbv (by omega)
  have c1:(j:Int)<(out.length:Int):=by omega
  have c2:(0:Int)≤(j:Int):=by omega
  have hm:acc.length+[y].length≤VE.maxLen:=by show _≤4294967296;simp;omega
  cases he:vad y ky
  ·obtain⟨j',hj⟩:=vrt (u0:=u0) (u1:=u1) (ky:=ky) (r1:=r1) (r2:=r2) ho l acc (j+1) q (vap hd) (by simpa using hq) (by omega)
   refine⟨j',fun K=>?_⟩
   simp only [vag,vgt,c1,c2,decide_true,cond_true,and_self,if_true,Int.toNat_natCast,hy,he,cond_false,Sum.elim_inl,w,List.filter_cons]
   exact hj K
  ·obtain⟨j',hj⟩:=vrt (u0:=u0) (u1:=u1) (ky:=ky) (r1:=r1) (r2:=r2) ho l (acc++[y]) (j+1) q (vap hd) (by simpa using hq) (by simp;omega)
   refine⟨j',fun K=>?_⟩
   simp only [vag,vgt,c1,c2,decide_true,cond_true,and_self,if_true,Int.toNat_natCast,hy,he,if_pos hm,Sum.elim_inl,w,List.filter_cons]
   rw [hj K,List.append_assoc,List.singleton_append]
theorem vsl {u0:List tVersion.D}{u1:Int}{ky r1 r2:ByteArray}{out:List ByteArray}(ho:out.length≤1048576):∀(l acc:List ByteArray)(j q:Nat),out.drop j=l→l.length<q→acc.length+l.length≤3000000→∃j':Int,∀K,
  vag vgu q (u0,u1,ky,(j:Int),r1,r2,out,acc) K=K (u0,u1,ky,j',r1,r2,out,acc++l.filter fun y=>!(vad y ky||va9 y ky))
 |l,acc,j,0,_,h,_=>by omega
 |[],acc,j,q+1,hd,_,_=>by
  have hge:=vca hd
  refine⟨(j:Int),fun K=>?_⟩
  simp only [vag,vgu,hge,decide_false,cond_false,Sum.elim_inr,List.filter_nil,List.append_nil]
 |y::l,acc,j,q+1,hd,hq,ha=>by
  simp only [List.length_cons]at ha
  have hlt:=vcr hd
  have hy:out.getD j (Ty.zero .str)=y:=(vbq hd).2 _
  have w:IntKind.wrap .i64 ((j:Int)+1)=((j+1:Nat):Int):=vbv (by omega)
  have c1:(j:Int)<(out.length:Int):=by omega
  have c2:(0:Int)≤(j:Int):=by omega
  have hm:acc.length+[y].length≤VE.maxLen:=by show _≤4294967296;simp;omega
  cases he:(!(vad y ky||va9 y ky))
  ·obtain⟨j',hj⟩:=vsl (u0:=u0) (u1:=u1) (ky:=ky) (r1:=r1) (r2:=r2) ho l acc (j+1) q (vap hd) (by simpa using hq) (by omega)
   refine⟨j',fun K=>?_⟩
   simp only [vag,vgu,c1,c2,decide_true,cond_true,and_self,if_true,Int.toNat_natCast,hy,he,cond_false,Sum.elim_inl,w,List.filter_cons]
   exact hj K
  ·obtain⟨j',hj⟩:=vsl (u0:=u0) (u1:=u1) (ky:=ky) (r1:=r1) (r2:=r2) ho l (acc++[y]) (j+1) q (vap hd) (by simpa using hq) (by simp;omega)
   refine⟨j',fun K=>?_⟩
   simp only [vag,vgu,c1,c2,decide_true,cond_true,and_self,if_true,Int.toNat_natCast,hy,he,if_pos hm,Sum.elim_inl,w,List.filter_cons]
   rw [hj K,List.append_assoc,List.singleton_append]
theorem vji:∀{l m:List ByteArray},Asc l→(∀x∈l,x∈m)→l.length≤m.length:=by
 intro l m h hm
 have nd:l.Nodup:=by
  refine List.Pairwise.imp ?_ h
  intro a b hab e
  rw [e,vd6]at hab
  cases hab
 exact List.Nodup.length_le_of_subset nd hm
theorem vrs {u0:List tVersion.D}(hu:u0.length≤1048576){r:tRange.D}:∀(l:List tVersion.D)(out:List ByteArray)(i q:Nat),u0.drop i=l→l.length<q→Asc out→(∀x∈out,x∈u0.map fun v=>v.1)→∃j:Int,∀K,
  vag vgw q (u0,(i:Int),r.1,r.2,out) K=K (u0,j,r.1,r.2,vjk r l out)
 |l,out,i,0,_,h,_,_=>by omega
 |[],out,i,q+1,hd,_,_,_=>by
  have hge:=vca hd
  refine⟨(i:Int),fun K=>?_⟩
  simp only [vag,vgw,hge,decide_false,cond_false,Sum.elim_inr,vjk]
 |y::l,out,i,q+1,hd,hq,ha,hsub=>by
  have hlt:=vcr hd
  have hy:rd (Ty.zero tVersion) u0 (i:Int)=y:=(vbq hd).1 _
  have w:IntKind.wrap .i64 ((i:Int)+1)=((i+1:Nat):Int):=vbv (by omega)
  have c1:(i:Int)<(u0.length:Int):=by omega
  have c2:(0:Int)≤(i:Int):=by omega
  have hol:out.length≤1048576:=by
   have:=vji ha hsub
   rw [List.length_map]at this
   omega
  have hin:∀k,vmv (r.1,r.2) y.1 k=k (vbo r y.1):=fun k=>v1d r y.1 k
  simp only [vjk]
  cases hr:vbo r y.1
  ·obtain⟨j,hj⟩:=vrs hu (r:=r) l out (i+1) q (vap hd) (by simpa using hq) ha hsub
   refine⟨j,fun K=>?_⟩
   simp only [vag,vgw,c1,c2,decide_true,cond_true,and_self,if_true,hy,hin,hr,Bool.not_false,Sum.elim_inl,w,cond_false]
   exact hj K
  ·obtain⟨j1,h1⟩:=vrt (u0:=u0) (u1:=(i:Int)) (ky:=y.1) (r1:=r.1) (r2:=r.2) (out:=out) (by omega) out [] 0 Fuel rfl (Nat.lt_of_lt_of_le (by omega) vb6) (by simp;omega)
   have hfl:=List.length_filter_le (fun z=>vad z y.1) out
   obtain⟨j2,h2⟩:=vsl (u0:=u0) (u1:=(i:Int)) (ky:=y.1) (r1:=r.1) (r2:=r.2) (out:=out) (by omega) out ((out.filter fun z=>vad z y.1)++[y.1]) 0 Fuel rfl (Nat.lt_of_lt_of_le (by omega) vb6) (by simp;omega)
   have hz:((0:Nat):Int)=0:=rfl
   rw [hz]at h1 h2
   obtain⟨a1,a2⟩:=vux ha y.1
   obtain⟨j,hj⟩:=vrs hu (r:=r) l (insK out y.1) (i+1) q (vap hd) (by simpa using hq) a1 (fun x hx=>by
    rcases(a2 x).1 hx with e|e
    ·rw [e];exact List.mem_map.2 ⟨y,vta hd,rfl⟩
    ·exact hsub x e)
   refine⟨j,fun K=>?_⟩
   have hm:(out.filter fun z=>vad z y.1).length+[y.1].length≤VE.maxLen:=by show _≤4294967296;simp only [List.length_singleton];omega
   simp only [vag,vgw,c1,c2,decide_true,cond_true,and_self,if_true,hy,hin,hr,Bool.not_true,cond_false,h1,List.nil_append,if_pos hm,h2,Sum.elim_inl,w]
   have e:(out.filter fun z=>vad z y.1)++[y.1]++(out.filter fun z=>!(vad z y.1||va9 z y.1))=insK out y.1:=by unfold insK;rw [List.append_assoc,List.singleton_append]
   rw [e]
   exact hj K
theorem v11 {l:List tVersion.D}(hl:l.length≤1048576)(r:tRange.D) (k):vql l r k=k (vjk r l []):=by
 rw [vv5]
 unfold vtn
 obtain⟨j,hj⟩:=vrs hl (r:=r) l [] 0 Fuel rfl (Nat.lt_of_lt_of_le (by omega) vb6) List.Pairwise.nil (fun x h=>by cases h)
 have hz:((0:Nat):Int)=0:=rfl
 rw [hz]at hj
 rw [hj]
def seeF (l:List tVersion.D)(snap:Int)(k:ByteArray):Option tRange.D:=bif (vcb l k snap).2 then some (k,(vcb l k snap).1)else none
theorem vli {u0:List tVersion.D}(hu:u0.length≤1048576){snap:Int}{ks:List ByteArray}(hk:ks.length≤1048576):∀(l:List ByteArray)(out:List tRange.D)(i q:Nat),ks.drop i=l→l.length<q→out.length+l.length≤3000000→∃j:Int,∀K,
  vag vfy q (u0,snap,(i:Int),out,ks) K=K (u0,snap,j,out++l.filterMap (seeF u0 snap),ks)
 |l,out,i,0,_,h,_=>by omega
 |[],out,i,q+1,hd,_,_=>by
  have hge:=vca hd
  refine⟨(i:Int),fun K=>?_⟩
  simp only [vag,vfy,hge,decide_false,cond_false,Sum.elim_inr,List.filterMap_nil,List.append_nil]
 |y::l,out,i,q+1,hd,hq,ha=>by
  simp only [List.length_cons]at ha
  have hlt:=vcr hd
  have hy:ks.getD i (Ty.zero .str)=y:=(vbq hd).2 _
  have w:IntKind.wrap .i64 ((i:Int)+1)=((i+1:Nat):Int):=vbv (by omega)
  have c1:(i:Int)<(ks.length:Int):=by omega
  have c2:(0:Int)≤(i:Int):=by omega
  cases he:(vcb u0 y snap).2
  ·obtain⟨j,hj⟩:=vli hu (snap:=snap) hk l out (i+1) q (vap hd) (by simpa using hq) (by omega)
   refine⟨j,fun K=>?_⟩
   simp only [vag,vfy,c1,c2,decide_true,cond_true,and_self,if_true,Int.toNat_natCast,hy,vwf hu,he,cond_false,Sum.elim_inl,w,List.filterMap_cons,seeF]
   exact hj K
  ·have hm:out.length+[(y,(vcb u0 y snap).1)].length≤VE.maxLen:=by show _≤4294967296;simp;omega
   obtain⟨j,hj⟩:=vli hu (snap:=snap) hk l (out++[(y,(vcb u0 y snap).1)]) (i+1) q (vap hd) (by simpa using hq) (by simp;omega)
   refine⟨j,fun K=>?_⟩
   simp only [vag,vfy,c1,c2,decide_true,cond_true,and_self,if_true,Int.toNat_natCast,hy,vwf hu,he,if_pos hm,Sum.elim_inl,w,List.filterMap_cons,seeF]
   rw [hj K,List.append_assoc,List.singleton_append]
def seeI (l:List tVersion.D)(r:tRange.D)(snap:Int)(k:ByteArray):Option tRange.D:=bif (vcb l k snap).2&&vbo r k then some (k,(vcb l k snap).1)else none
theorem vii {u0:List tVersion.D}(hu:u0.length≤1048576){snap:Int}{r:tRange.D}{ks:List ByteArray}(hk:ks.length≤1048576):∀(l:List ByteArray)(out:List tRange.D)(i q:Nat),ks.drop i=l→l.length<q→out.length+l.length≤3000000→∃j:Int,∀K,
  vag vfn q (u0,snap,(ks.length:Int),(i:Int),r.1,r.2,out,ks) K=K (u0,snap,(ks.length:Int),j,r.1,r.2,out++l.filterMap (seeI u0 r snap),ks)
 |l,out,i,0,_,h,_=>by omega
 |[],out,i,q+1,hd,_,_=>by
  have hge:=vca hd
  refine⟨(i:Int),fun K=>?_⟩
  simp only [vag,vfn,hge,decide_false,cond_false,Sum.elim_inr,List.filterMap_nil,List.append_nil]
 |y::l,out,i,q+1,hd,hq,ha=>by
  simp only [List.length_cons]at ha
  have hlt:=vcr hd
  have hy:ks.getD i (Ty.zero .str)=y:=(vbq hd).2 _
  have w:IntKind.wrap .i64 ((i:Int)+1)=((i+1:Nat):Int):=vbv (by omega)
  have c1:(i:Int)<(ks.length:Int):=by omega
  have c2:(0:Int)≤(i:Int):=by omega
  have hin:∀k,vnj (r.1,r.2) y k=k (vbo r y):=fun k=>v1e r y k
  cases he:(vcb u0 y snap).2
  ·obtain⟨j,hj⟩:=vii hu (snap:=snap) (r:=r) hk l out (i+1) q (vap hd) (by simpa using hq) (by omega)
   refine⟨j,fun K=>?_⟩
   simp only [vag,vfn,c1,c2,decide_true,cond_true,and_self,if_true,Int.toNat_natCast,hy,vse hu,he,cond_false,Sum.elim_inl,w,List.filterMap_cons,seeI,Bool.false_and]
   exact hj K
  ·cases hr:vbo r y
   ·obtain⟨j,hj⟩:=vii hu (snap:=snap) (r:=r) hk l out (i+1) q (vap hd) (by simpa using hq) (by omega)
    refine⟨j,fun K=>?_⟩
    simp only [vag,vfn,c1,c2,decide_true,cond_true,and_self,if_true,Int.toNat_natCast,hy,vse hu,he,hin,hr,cond_false,Sum.elim_inl,w,List.filterMap_cons,seeI,Bool.true_and]
    exact hj K
   ·have hm:out.length+[(y,(vcb u0 y snap).1)].length≤VE.maxLen:=by show _≤4294967296;simp;omega
    obtain⟨j,hj⟩:=vii hu (snap:=snap) (r:=r) hk l (out++[(y,(vcb u0 y snap).1)]) (i+1) q (vap hd) (by simpa using hq) (by simp;omega)
    refine⟨j,fun K=>?_⟩
    simp only [vag,vfn,c1,c2,decide_true,cond_true,and_self,if_true,Int.toNat_natCast,hy,vse hu,he,hin,hr,if_pos hm,Sum.elim_inl,w,List.filterMap_cons,seeI,Bool.true_and]
    rw [hj K,List.append_assoc,List.singleton_append]
def vqf (l:List tVersion.D)(r:tRange.D)(snap:Int):List tRange.D:=(vjk r l []).filterMap (seeF l snap)
theorem filterMap_filter' {α β:Type}(p:α→Bool)(f:α→Option β):∀l:List α,l.filterMap (fun x=>bif p x then f x else none)=(l.filter p).filterMap f
 |[]=>rfl
 |x::l=>by
  simp only [List.filterMap_cons,List.filter_cons,filterMap_filter' p f l]
  cases p x<;>rfl
theorem vya (l:List tVersion.D)(r:tRange.D)(snap:Int):(vvb l).filterMap (seeI l r snap)=vqf l r snap:=by
 unfold vqf
 rw [←vxk,←filterMap_filter']
 congr 1
 funext k
 unfold seeI seeF
 cases vbo r k<;>cases (vcb l k snap).2<;>rfl
theorem vj0 {l:List tVersion.D}(r:tRange.D):(vjk r l []).length≤l.length:=by
 obtain⟨k1,k2⟩:=vip r l [] List.Pairwise.nil
 have:=vji (m:=l.map fun v=>v.1) k1 (fun x hx=>by
  rcases(k2 x).1 hx with e|e
  ·cases e
  ·exact e.2)
 rw [List.length_map]at this
 exact this
theorem vrh (l:List tVersion.D):(vvb l).length≤l.length:=by
 obtain⟨s1,s2⟩:=vqh (l.map fun v=>v.1)
 obtain⟨d1,d2⟩:=v07 s1
 have:=vji (m:=l.map fun v=>v.1) d1 (fun x hx=>(s2 x).1 ((d2 x).1 hx))
 rw [List.length_map]at this
 exact this
theorem vqs (l:List tVersion.D)(r:tRange.D)(snap:Int):(vqf l r snap).length≤l.length:=by
 unfold vqf
 exact Nat.le_trans (List.length_filterMap_le _ _) (vj0 r)
theorem v1q {l:List tVersion.D}(hl:l.length≤1048576)(r:tRange.D)(snap:Int) (k):vm3 l r snap k=k (vqf l r snap):=by
 rw [vwu]
 unfold vtv
 have hk:=vj0 (l:=l) r
 obtain⟨j,hj⟩:=vli (u0:=l) (by omega) (snap:=snap) (ks:=vjk r l []) (by omega) _ [] 0 Fuel rfl (Nat.lt_of_lt_of_le (by rw [List.drop_zero];omega) vb6) (by simp;omega)
 have hz:((0:Nat):Int)=0:=rfl
 rw [hz]at hj
 simp only [v11 hl,hj,List.nil_append,List.drop_zero]
 rfl
theorem v1f {l:List tVersion.D}(hl:l.length≤1048576)(r:tRange.D)(snap:Int) (k):vju l r snap k=k (vqf l r snap):=by
 rw [vwk]
 unfold vt2
 have hk:=vrh l
 obtain⟨j,hj⟩:=vii (u0:=l) (by omega) (snap:=snap) (r:=r) (ks:=vvb l) (by omega) _ [] 0 Fuel rfl (Nat.lt_of_lt_of_le (by rw [List.drop_zero];omega) vb6) (by simp;omega)
 have hz:((0:Nat):Int)=0:=rfl
 rw [hz]at hj
 simp only [v1w (show l.length≤1048576 by omega),hj,List.nil_append,List.drop_zero]
 exact congrArg k (vya l r snap)
end
end Go.VE
/- Plain laws: marks of pairs and versions. -/
namespace Go.VE
noncomputable section
set_option linter.unusedVariables false
set_option linter.unusedSimpArgs false
set_option maxRecDepth 100000
theorem vhm:∀(l pre:List tRange.D)(c:Int)(q:Nat),0≤c→c+2*l.length≤9000000→pre.length+l.length≤1048576→l.length<q→
  ∃j:Int,∀k,vag vhs q (c,(pre.length:Int),pre++l) k=k (c+2*l.length,j,pre++vki c l)
 |[],pre,c,q,h0,hc,hl,hq=>by
  obtain⟨q,rfl⟩:∃r,q=r+1:=⟨q-1,by omega⟩
  refine⟨pre.length,fun k=>?_⟩
  simp only [vag,vhs,List.append_nil,Int.lt_irrefl,decide_false,cond_false,Sum.elim_inr,List.length_nil,vki]
  simp
 |y::l,pre,c,q,h0,hc,hl,hq=>by
  obtain⟨q,rfl⟩:∃r,q=r+1:=⟨q-1,by omega⟩
  simp only [List.length_cons]at hc hl hq
  obtain⟨j,hj⟩:=vhm l (pre++[(vu5 c,vu5 (c+1))]) (c+2) q (by omega) (by omega) (by rw [List.length_append,List.length_singleton];omega) (by omega)
  refine⟨j,fun k=>?_⟩
  have hlt:(pre.length:Int)<((pre++y::l).length:Int):=by rw [List.length_append,List.length_cons];omega
  have hlt2:∀v:tRange.D,(pre.length:Int)<((pre++v::l).length:Int):=fun v=>by rw [List.length_append,List.length_cons];omega
  have w1:IntKind.wrap .i64 (c+1)=c+1:=ve2 (by omega) (by omega)
  have w2:IntKind.wrap .i64 (c+1+1)=c+2:=by rw [ve2 (by omega) (by omega)];omega
  have w3:IntKind.wrap .i64 ((pre.length:Int)+1)=((pre.length+1:Nat):Int):=vbv (by omega)
  have hp:(0:Int)≤(pre.length:Int):=Int.natCast_nonneg _
  have hj':=hj k
  rw [List.length_append,List.length_singleton,List.append_assoc,List.singleton_append,List.append_assoc,List.singleton_append]at hj'
  simp only [vag,vhs,hlt,decide_true,cond_true,vcs (show c≤10000000 by omega),w1,vcs (show c+1≤10000000 by omega),Int.toNat_natCast,v1j,v0e,hlt2,hp,and_self,if_true,w2,w3,Sum.elim_inl]
  rw [hj']
  simp only [vki,List.length_cons]
  congr 2
  push_cast
  omega
theorem v16 {l:List tRange.D}(hl:l.length≤1048576){c:Int}(h0:0≤c)(hc:c≤5000000) (k):vml c l k=k (c+2*l.length,vki c l):=by
 rw [vxy]
 unfold vuf
 obtain⟨j,hj⟩:=vhm l [] c Fuel h0 (by omega) (by simpa using hl) (by have:=vb6;omega)
 simp only [List.length_nil,List.nil_append]at hj
 rw [show ((0:Int))=((0:Nat):Int)from rfl,hj]
theorem vhr {u0 u2}:∀(l:List tRange.D)(c:Int)(i:Nat),0≤c→c+2*l.length≤9000000→∃j:Int,∀k,vfl u0 u2 (vki c l) c i k=k (.inr (c+2*l.length,j))
 |[],c,i,_,_=>⟨_,fun k=>by simp only [vki,vfl,List.length_nil];simp;rfl⟩
 |y::l,c,i,h0,hc=>by
  simp only [List.length_cons]at hc
  obtain⟨j,hj⟩:=vhr (u0:=u0) (u2:=u2) l (c+2) (i+1) (by omega) (by omega)
  have w1:IntKind.wrap .i64 (c+1)=c+1:=ve2 (by omega) (by omega)
  have w2:IntKind.wrap .i64 (c+1+1)=c+2:=by rw [ve2 (by omega) (by omega)];omega
  refine⟨j,fun k=>?_⟩
  simp only [vki,vfl,vcs (show c≤10000000 by omega),w1,vcs (show c+1≤10000000 by omega),ve5,Bool.not_true,cond_false,w2,hj,List.length_cons]
  congr 3
  push_cast
  omega
theorem vqx {l:List tRange.D}(hl:l.length≤1048576) (k):viv (vki 1 l) 1 k=k (1+2*(l.length:Int)):=by
 rw [v3n (by rw [vj1];omega)]
 unfold vw2
 obtain⟨j,hj⟩:=vhr (u0:=vki 1 l) (u2:=0) l 1 0 (by decide) (by omega)
 rw [hj];rfl
theorem vjl:∀(m i:Nat)(S:List tVersion.D)(c:Int)(q:Nat),i+m=S.length→m<q→0≤c→c+4*(m:Int)≤9000000→S.length≤1048576→∃(j:Int)(S':List tVersion.D),∀k,vag vgp q (c,(i:Int),S) k=k (c+4*(m:Int),j,S'):=by
 intro m
 induction m with
 |zero=>
  intro i S c q hi hq h0 hc hS
  obtain⟨q,rfl⟩:∃q',q=q'+1:=⟨q-1,by omega⟩
  refine⟨(i:Int),S,fun k=>?_⟩
  simp only [vag,vgp,show ¬(i:Int)<(S.length:Int) by omega,decide_false,cond_false,Sum.elim_inr]
  simp
 |succ m ih=>
  intro i S c q hi hq h0 hc hS
  obtain⟨q,rfl⟩:∃q',q=q'+1:=⟨q-1,by omega⟩
  have w1:IntKind.wrap .i64 (c+1)=c+1:=ve2 (by omega) (by omega)
  have w2:IntKind.wrap .i64 (c+1+1)=c+2:=by rw [ve2 (by omega) (by omega)];omega
  have w3:IntKind.wrap .i64 (c+2+1)=c+3:=by rw [ve2 (by omega) (by omega)];omega
  have w4:IntKind.wrap .i64 (c+3+1)=c+4:=by rw [ve2 (by omega) (by omega)];omega
  have w5:IntKind.wrap .i64 ((i:Int)+1)=((i+1:Nat):Int):=vbv (by omega)
  have c1:(i:Int)<(S.length:Int):=by omega
  have c2:(0:Int)≤(i:Int):=by omega
  have hih:=fun S2 (h2:List.length (α:=tVersion.D) S2=S.length)=>ih (i+1) S2 (c+4) q (by omega) (by omega) (by omega) (by push_cast at hc;omega) (by omega)
  have hx:∃S2:List tVersion.D,S2.length=S.length∧∀k,vgp (c,(i:Int),S) k=k (.inl (c+4,((i+1:Nat):Int),S2)):=by
   apply Exists.intro
   apply And.intro
   rotate_left
   ·intro k
    simp only [vgp,c1,c2,decide_true,cond_true,and_self,if_true,List.length_set,vcs (show c≤10000000 by omega),w1,vcs (show c+1≤10000000 by omega),w2,w3,w4,w5]
    rfl
   ·simp only [List.length_set]
  obtain⟨S2,hl2,hb⟩:=hx
  obtain⟨j,S',hj⟩:=hih S2 hl2
  refine⟨j,S',fun k=>?_⟩
  simp only [vag,hb,Sum.elim_inl]
  rw [hj]
  congr 2
  push_cast
  omega
theorem v19 {l:List tVersion.D}(hl:l.length≤1048576):∃S':List tVersion.D,∀k,vn2 1 l k=k (1+4*(l.length:Int),S'):=by
 rw [vxf]
 unfold vtq
 obtain⟨j,S',hj⟩:=vjl l.length 0 l 1 Fuel (by omega) (Nat.lt_of_lt_of_le (by omega) vb6) (by decide) (by omega) hl
 have hz:((0:Nat):Int)=0:=rfl
 rw [hz]at hj
 exact⟨S',fun k=>by rw [hj]⟩
end
end Go.VE
/- The plain laws. -/
namespace Go.VE
set_option linter.unusedVariables false
set_option linter.unusedSimpArgs false
set_option maxRecDepth 100000
theorem vi7 (x:(Ty.slice tVersion).D)(y:tRange.D)(z:Int)(hx:(Ty.slice tVersion).wf x)(hy:tRange.wf y)(hz:(Ty.int .i64).wf z)(k:Bool→Option Res):vpt x y z k=k true:=by
 rw [v3f]
 unfold vwn
 obtain⟨r0,q0,p0⟩:=vph hx (a:=1048576) (by omega) (by omega)
 rw [q0]
 rcases p0 with p0|⟨p0,e0⟩
 ·simp [p0]
 have c0:¬r0<0:=by omega
 simp only [c0,decide_false,cond_false]
 obtain⟨r1,q1,p1⟩:=vvy hy (a:=r0) p0 (by omega)
 rw [q1]
 rcases p1 with p1|⟨p1,e1⟩
 ·simp [p1]
 have c1:¬r1<0:=by omega
 simp only [c1,decide_false,cond_false]
 have wx:(Ty.slice tVersion).wt x≤1048576:=by omega
 have lx:=v3o wx
 have hs:=vqs x y z
 have ls:(vqf x y z).length≤1048576:=by omega
 obtain⟨S',hm⟩:=v19 lx
 have n1:decide (1+4*(x.length:Int)<0)=false:=decide_eq_false (by omega)
 have n2:decide (1+2*((vqf x y z).length:Int)<0)=false:=decide_eq_false (by omega)
 simp only [vo4 lx,vvm,v1q lx,v1f lx,vq8 ls,vlr lx,hm,n1,n2,vcy,v16 ls (show (0:Int)≤1 by decide) (show (1:Int)≤5000000 by decide),vqx ls,vzi,beq_self_eq_true,bne_self_eq_false,Bool.not_true,Bool.not_false,cond_true,cond_false]
end Go.VE
