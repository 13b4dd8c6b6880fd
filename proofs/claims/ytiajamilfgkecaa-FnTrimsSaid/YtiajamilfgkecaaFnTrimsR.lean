/- The plain laws behind FnTrims. -/
import Derived.Test.YtiajamilfgkecaaFnTrimsL
import Derived.Test.YtiajamilfgkecaaP3
import Derived.Test.YtiajamilfgkecaaU28
/- Plain laws: keys,ranges,writes,transactions,who is ahead of whom. -/
namespace Go.VE
noncomputable section
set_option linter.unusedVariables false
set_option linter.unusedSimpArgs false
set_option maxRecDepth 100000
def vhv (n lo hi:Int):Bool:=decide (n≥lo)&&decide (n≤hi)
theorem v47 (a b c) (k):vjy a b c k=k (vhv a b c):=by
 rw [v3r];unfold vy6 vhv;cases decide (a≥b)<;>rfl
def vch (r:tRange.D)(key:ByteArray):Bool:=!(vab key r.1)&&(vab key r.2||van key r.2)
theorem wbu (r:tRange.D) (key) (k):vri r key k=k (vch r key):=by
 rw [v4t];unfold v0i vch;cases vab key r.1<;>rfl
theorem wcp (r:tRange.D) (key) (k):vq4 r key k=k (vch r key):=by
 rw [v6f];unfold vz0 vch;cases vab key r.1<;>rfl
def vh5 (s:ByteArray):Bool:=!((vc1 s).any fun y=>decide (y<97)||decide (y>122))&&vhv s.size 1 3
theorem vq5 {u0} {u1}:∀l i,∃j:Int,∀k,vis u0 u1 l i k=k (bif l.any (fun y=>decide (y<97)||decide (y>122))then .inl (false,j)else .inr j)
 |[],i=>⟨_,fun k=>rfl⟩
 |y::l,i=>by
  obtain⟨j,hj⟩:=vq5 (u0:=u0) (u1:=u1) l (i+1)
  simp only [vis,hj,List.any_cons]
  cases hp:(decide (y<97)||decide (y>122))
  ·exact⟨j,fun k=>by(try simp only [Bool.false_or])<;>(try (revert hp;cases decide (y<97)<;>cases decide (y>122)<;>simp))⟩
  ·exact⟨(i:Int),fun k=>by(try simp only [Bool.true_or,cond_true])<;>(try (revert hp;cases decide (y<97)<;>cases decide (y>122)<;>simp))⟩
theorem wb0 {s:ByteArray}(hs:s.size≤1048576) (k):vo3 s k=k (vh5 s):=by
 rw [weq (by omega)]
 unfold v5k vh5
 obtain⟨j,hj⟩:=vq5 (u0:=s) (u1:=false) (vc1 s) 0
 rw [hj]
 cases ((vc1 s).any fun y=>decide (y<97)||decide (y>122))
 ·simp [v47]
 ·rfl
def vdw (w:tWrite.D):Bool:=vh5 w.1&&decide ((w.2.1.size:Int)≤12)&&(!w.2.2||van w.2.1 ⟨#[]⟩)
end
end Go.VE
/- Plain laws: one of a list that passes a test;what is seen;the oldest. -/
namespace Go.VE
noncomputable section
set_option linter.unusedVariables false
set_option linter.unusedSimpArgs false
set_option maxRecDepth 100000
def zV:tVersion.D:=Ty.zero tVersion
def vbh (u0:List tVersion.D)(key:ByteArray)(snap:Int):List tVersion.D→Int→Nat→Int
 |[],s,_=>s
 |y::l,s,i=>bif van y.1 key&&(decide (y.2.2.2≤snap)&&(decide (s<0)||decide (y.2.2.2>(rd zV u0 s).2.2.2)))then vbh u0 key snap l (i:Int) (i+1)else vbh u0 key snap l s (i+1)
def vbm (xs:List tVersion.D)(key:ByteArray)(snap:Int):Int:=vbh xs key snap xs (-1) 0
theorem vlt {u0 u1 u2} {u4}:∀(l:List tVersion.D)(s:Int)(i:Nat),u0.drop i=l→(s<0∨0≤s∧s<(u0.length:Int))→
  ∃j:Int,(∀k,vd7 u0 u1 u2 u4 l s i k=k (vbh u0 u1 u2 l s i,j))∧(vbh u0 u1 u2 l s i<0∨0≤vbh u0 u1 u2 l s i∧vbh u0 u1 u2 l s i<(u0.length:Int))
 |[],s,i,_,hs=>⟨_,fun k=>rfl,hs⟩
 |y::l,s,i,h,hs=>by
  have hlt:=vbn h
  obtain⟨j1,hj1,b1⟩:=vlt (u0:=u0) (u1:=u1) (u2:=u2) (u4:=u4) l s (i+1) (vai h) hs
  obtain⟨j2,hj2,b2⟩:=vlt (u0:=u0) (u1:=u1) (u2:=u2) (u4:=u4) l (i:Int) (i+1) (vai h) (.inr (by omega))
  have hz:(Ty.zero tVersion)=zV:=rfl
  simp only [vd7,hj1,hj2,vbh,hz]
  cases van y.1 u1
  ·exact⟨j1,fun k=>rfl,b1⟩
  ·cases decide (y.2.2.2≤u2)
   ·exact⟨j1,fun k=>rfl,b1⟩
   ·by_cases c:s<0
    ·simp only [c,decide_true,cond_true,Bool.true_or,Bool.and_self];exact⟨j2,fun k=>rfl,b2⟩
    ·simp only [c,decide_false,cond_true,cond_false,Bool.false_or,Bool.true_and]
     simp only [if_pos (show 0≤s∧s<(u0.length:Int) by omega)]
     cases decide (y.2.2.2>(rd zV u0 s).2.2.2)
     ·exact⟨j1,fun k=>rfl,b1⟩
     ·exact⟨j2,fun k=>rfl,b2⟩
theorem v6p {xs:List tVersion.D}(hl:xs.length≤1048576) (key) (snap) (k):vmn xs key snap k=k (vbm xs key snap):=by
 rw [wc7 (by omega)]
 unfold v24 vbm
 obtain⟨j,hj,_⟩:=vlt (u0:=xs) (u1:=key) (u2:=snap) (u4:=xs) xs (-1) 0 rfl (.inl (by omega))
 rw [hj]
theorem vlv {u0 u1 u2}  : ∀(l:List tVersion.D)(s:Int)(i:Nat),u0.drop i=l→(s<0∨0≤s∧s<(u0.length:Int))→
  ∃j:Int,(∀k,vea u0 u1 u2  l s i k=k (vbh u0 u1 u2 l s i,j))∧(vbh u0 u1 u2 l s i<0∨0≤vbh u0 u1 u2 l s i∧vbh u0 u1 u2 l s i<(u0.length:Int))
 |[],s,i,_,hs=>⟨_,fun k=>rfl,hs⟩
 |y::l,s,i,h,hs=>by
  have hlt:=vbn h
  obtain⟨j1,hj1,b1⟩:=vlv (u0:=u0) (u1:=u1) (u2:=u2)  l s (i+1) (vai h) hs
  obtain⟨j2,hj2,b2⟩:=vlv (u0:=u0) (u1:=u1) (u2:=u2)  l (i:Int) (i+1) (vai h) (.inr (by omega))
  have hz:(Ty.zero tVersion)=zV:=rfl
  simp only [vea,hj1,hj2,vbh,hz]
  cases van y.1 u1
  ·exact⟨j1,fun k=>rfl,b1⟩
  ·cases decide (y.2.2.2≤u2)
   ·exact⟨j1,fun k=>rfl,b1⟩
   ·by_cases c:s<0
    ·simp only [c,decide_true,cond_true,Bool.true_or,Bool.and_self];exact⟨j2,fun k=>rfl,b2⟩
    ·simp only [c,decide_false,cond_true,cond_false,Bool.false_or,Bool.true_and]
     simp only [if_pos (show 0≤s∧s<(u0.length:Int) by omega)]
     cases decide (y.2.2.2>(rd zV u0 s).2.2.2)
     ·exact⟨j1,fun k=>rfl,b1⟩
     ·exact⟨j2,fun k=>rfl,b2⟩
theorem v5y {xs:List tVersion.D}(hl:xs.length≤1048576) (key) (snap) (k):vmj xs key snap k=k (vbm xs key snap):=by
 rw [wc8 (by omega)]
 unfold v3k vbm
 obtain⟨j,hj,_⟩:=vlv (u0:=xs) (u1:=key) (u2:=snap)  xs (-1) 0 rfl (.inl (by omega))
 rw [hj]
theorem vhc {u0:List tVersion.D}{key:ByteArray}{snap:Int}:∀(l:List tVersion.D)(s:Int)(i:Nat),i+l.length≤u0.length→(s<0∨0≤s∧s<(u0.length:Int))→(vbh u0 key snap l s i<0∨0≤vbh u0 key snap l s i∧vbh u0 key snap l s i<(u0.length:Int))
 |[],s,i,_,hs=>hs
 |y::l,s,i,h,hs=>by
  simp only [List.length_cons]at h
  simp only [vbh]
  cases (van y.1 key&&(decide (y.2.2.2≤snap)&&(decide (s<0)||decide (y.2.2.2>(rd zV u0 s).2.2.2))))
  ·exact vhc l s (i+1) (by omega) hs
  ·exact vhc l (i:Int) (i+1) (by omega) (.inr (by omega))
theorem vg6 (xs:List tVersion.D)(key:ByteArray)(snap:Int):vbm xs key snap<0∨0≤vbm xs key snap∧vbm xs key snap<(xs.length:Int):=
 vhc xs (-1) 0 (by omega) (.inl (by omega))
def vbf (xs:List tVersion.D)(key:ByteArray)(snap:Int):ByteArray×Bool:=
 bif decide (vbm xs key snap<0)then(⟨#[]⟩,false)else bif (rd zV xs (vbm xs key snap)).2.2.1 then(⟨#[]⟩,false)else((rd zV xs (vbm xs key snap)).2.1,true)
theorem vya {xs:List tVersion.D}(hl:xs.length≤1048576) (key) (snap) (k):vtz xs key snap k=k (vbf xs key snap):=by
 have hb:=vg6 xs key snap
 have hz:(Ty.zero tVersion)=zV:=rfl
 rw [v52]
 unfold vzf vbf
 simp only [v6p hl,hz]
 by_cases c:vbm xs key snap<0
 ·simp only [c,decide_true,cond_true]
 ·simp only [c,decide_false,cond_false]
  rw [if_pos (by omega)]
  cases (rd zV xs (vbm xs key snap)).2.2.1
  ·simp only [cond_false];rw [if_pos (by omega)]
  ·rfl
theorem v4f {xs:List tVersion.D}(hl:xs.length≤1048576) (key) (snap) (k):vu9 xs key snap k=k (vbf xs key snap):=by
 have hb:=vg6 xs key snap
 have hz:(Ty.zero tVersion)=zV:=rfl
 rw [v56]
 unfold vyk vbf
 simp only [v5y hl,hz]
 by_cases c:vbm xs key snap<0
 ·simp only [c,decide_true,cond_true]
 ·simp only [c,decide_false,cond_false]
  rw [if_pos (by omega)]
  cases (rd zV xs (vbm xs key snap)).2.2.1
  ·simp only [cond_false];rw [if_pos (by omega)]
  ·rfl
end
end Go.VE
/- Plain laws: where a name or an Id stands;a transaction's text. -/
namespace Go.VE
noncomputable section
set_option linter.unusedVariables false
set_option linter.unusedSimpArgs false
set_option maxRecDepth 100000
theorem vu4 {a b:ByteArray}(h:a.data.toList=b.data.toList):a=b:=by
 cases a;cases b;congr 1;exact Array.toList_inj.mp h
theorem vcq {a b:ByteArray}(h:van a b=true):a=b:=by
 rw [vjd,beq_iff_eq,ByteArray.toList_eq,ByteArray.toList_eq]at h
 exact vu4 h
theorem v1n {s:ByteArray}(h:vh5 s=true):s.size≤3:=by
 unfold vh5 vhv at h
 simp only [Bool.and_eq_true,decide_eq_true_eq]at h
 omega
end
end Go.VE
/- Plain laws of the draws: each gives,whatever the bytes. -/
namespace Go.VE
noncomputable section
set_option linter.unusedVariables false
set_option linter.unusedSimpArgs false
set_option maxRecDepth 100000
def Gives {α:Type}(F:(α→Option Res)→Option Res)(Q:α→Prop):Prop:=∃v,Q v∧∀k,F k=k v
theorem vaf {α:Type}{v:α}{Q:α→Prop}(h:Q v):Gives (fun k=>k v) Q:=⟨v,h,fun _=>rfl⟩
theorem Gives.bind {α β:Type}{F:(β→Option Res)→Option Res}{R:β→Prop}(hF:Gives F R){H:β→(α→Option Res)→Option Res}{Q:α→Prop}(hH:∀v,R v→Gives (H v) Q):Gives (fun k=>F fun v=>H v k) Q:=by
 obtain⟨v,h1,h2⟩:=hF
 obtain⟨y,h3,h4⟩:=hH v h1
 exact⟨y,h3,fun k=>(h2 _).trans (h4 k)⟩
theorem vaq {α:Type}{c:Bool}{F G:(α→Option Res)→Option Res}{Q:α→Prop}(hF:c=true→Gives F Q)(hG:c=false→Gives G Q):Gives (fun k=>bif c then F k else G k) Q:=by
 cases c
 ·exact hG rfl
 ·exact hF rfl
theorem vb7 {α:Type}{c:Prop} [Decidable c]{F:(α→Option Res)→Option Res}{Q:α→Prop}(hc:c)(hF:Gives F Q):Gives (fun k=>if c then F k else none) Q:=by
 simp only [hc,if_true];exact hF
theorem vnz {α:Type}{c:Prop} [Decidable c]{F:(α→Option Res)→Option Res}{Q:α→Prop}(hc:¬c)(hF:Gives F Q):Gives (fun k=>if c then none else F k) Q:=by
 simp only [hc,if_false];exact hF
theorem vcb {β γ:Type}{b:β→(β⊕γ→Option Res)→Option Res}{x:β}{n:Nat}{Q:γ→Prop}(h:Gives (b x) (fun r=>(∀y,r = .inl y→Gives (vae b n y) Q)∧∀z,r = .inr z→Q z)):Gives (vae b (n+1) x) Q:=by
 obtain⟨v,h1,h2⟩:=h
 cases v with
 |inl y=>
  obtain⟨w,h3,h4⟩:=h1.1 y rfl
  exact⟨w,h3,fun k=>by rw [vae,h2];exact h4 k⟩
 |inr z=>exact⟨z,h1.2 z rfl,fun k=>by rw [vae,h2];rfl⟩
theorem vu8 {β γ:Type}{Q:γ→Prop}{G:β→Prop}{y:β}(h:G y):(∀x,(Sum.inl y:β⊕γ) = .inl x→G x)∧∀z,(Sum.inl y:β⊕γ) = .inr z→Q z:=⟨fun _ e=>by cases e;exact h,fun _ e=>(nomatch e)⟩
theorem vjr {β γ:Type}{Q:γ→Prop}{G:β→Prop}{z:γ}(h:Q z):(∀x,(Sum.inr z:β⊕γ) = .inl x→G x)∧∀w,(Sum.inr z:β⊕γ) = .inr w→Q w:=⟨fun _ e=>(nomatch e),fun _ e=>by cases e;exact h⟩
def Dr (l:List Int)(p:Int):Prop:=l.length≤1048576∧0≤p
theorem wde {α:Type}{d:α}{xs:List α}{i:Int}(h0:0≤i)(h1:i<(xs.length:Int)):rd d xs i∈xs:=by
 have h:i.toNat<xs.length:=by omega
 have e:rd d xs i=xs[i.toNat]:=by unfold rd;simp [List.getD,List.getElem?_eq_getElem h]
 rw [e]
 exact List.getElem_mem h
theorem vzm (v:BitVec (IntKind.bits .i64)):0≤IntKind.wrap .i64 ((v &&& BitVec.ofInt (IntKind.bits .i64) (255:Int)).toNat:Int)∧IntKind.wrap .i64 ((v &&& BitVec.ofInt (IntKind.bits .i64) (255:Int)).toNat:Int)≤255:=by
 have h:(v &&& BitVec.ofInt (IntKind.bits .i64) (255:Int)).toNat≤255:=by
  rw [BitVec.toNat_and]
  exact Nat.le_trans Nat.and_le_right (by decide)
 rw [vcz (by omega) (by omega)]
 omega
theorem v3d {a0:List Int}(hl:a0.length≤1048576):∀(m:Nat)(i:Nat)(s:Int)(n:Nat),a0.length-i=m→m<n→Gives (vae vko n (a0,s,(i:Int))) (fun z=>z.1=a0):=by
 intro m
 induction m with
 |zero=>
  intro i s n hm hn
  obtain⟨n,rfl⟩:∃q,n=q+1:=⟨n-1,by omega⟩
  apply vcb
  unfold vko
  refine vaq (fun c=>by have c:=of_decide_eq_true c;(first|dsimp only at c|skip);omega) (fun _=>vaf ?_)
  exact vjr rfl
 |succ m ih=>
  intro i s n hm hn
  obtain⟨n,rfl⟩:∃q,n=q+1:=⟨n-1,by omega⟩
  apply vcb
  unfold vko
  refine vaq (fun c=>vaq (fun _=>?_) (fun _=>vaf ?_)) (fun _=>vaf ?_)
  ·refine Gives.bind (R:=fun z=>z.1=a0∧z.2.2=((i+1:Nat):Int)) ?_ (fun z hz=>vaf ?_)
   ·unfold vdk
    refine vb7 ⟨by dsimp only;omega,by have c:=of_decide_eq_true c;dsimp only at c ⊢;omega⟩ (vaf ⟨rfl,?_⟩)
    exact va4 (by omega)
   ·refine vu8 ?_
    rw [hz.1,hz.2]
    exact ih (i+1) _ n (by omega) (by omega)
  ·exact vjr rfl
  ·exact vjr rfl
theorem vuh {a0:List Int}(hl:a0.length≤1048576):Gives (vlk a0) (fun z=>Dr z.1 z.2.1):=by
 rw [v44]
 unfold v0u
 refine Gives.bind (v3d hl a0.length 0 _ Fuel rfl (by have:=vbg;omega)) (fun z hz=>vaf ?_)
 rw [hz]
 exact⟨hl,Int.le_refl _⟩
theorem vrs {l:List Int}{p s:Int}(h:Dr l p):Gives (vjt l p s) (fun y=>0≤y.1∧y.1≤255∧Dr y.2.1 y.2.2.1):=by
 rw [v6b]
 unfold vz3
 have h1:=h.1
 have h2:=h.2
 refine vaq (fun c=>vb7 ⟨h2,of_decide_eq_true c⟩ (vaf ⟨(vzm _).1,(vzm _).2,h1,?_⟩)) (fun _=>vaf ⟨(vzm _).1,(vzm _).2,h⟩)
 have c:=of_decide_eq_true c
 show 0≤IntKind.wrap .i64 (p+1)
 rw [vcz (by omega) (by omega)]
 omega
theorem vi2 {n:Int}(h0:0<n)(h1:n≤256){l:List Int}{p s:Int}(h:Dr l p):Gives (vev n l p s) (fun y=>0≤y.1∧y.1<n∧Dr y.2.1 y.2.2.1):=by
 rw [vzd]
 unfold vuz
 refine vaq (fun c=>by have c:=of_decide_eq_true c;(first|dsimp only at c|skip);omega) (fun _=>vaq (fun _=>?_) (fun c=>absurd h1 (of_decide_eq_false c)))
 refine(vrs h).bind (fun y hy=>vnz (by omega) (vaf ⟨?_,?_,hy.2.2⟩))
 ·exact Int.tmod_nonneg _ hy.1
 ·exact Int.tmod_lt_of_pos _ h0
theorem v4u {xs:List ByteArray}{Q:ByteArray→Prop}(hx:∀x∈xs,Q x)(h0:0<xs.length)(h1:xs.length≤256){l:List Int}{p s:Int}(h:Dr l p):Gives (vq1 xs l p s) (fun y=>Q y.1∧Dr y.2.1 y.2.2.1):=by
 rw [v5v]
 unfold v0g
 refine(vi2 (by omega) (by omega) h).bind (fun y hy=>vb7 ⟨hy.1,hy.2.1⟩ (vaf ⟨hx _ (wde hy.1 hy.2.1),hy.2.2⟩))
theorem wbr {l:List Int}{p s:Int}(h:Dr l p):Gives (vm5 l p s) (fun y=>y.1.size≤20∧Dr y.2.1 y.2.2.1):=by
 rw [vy9]
 unfold vtn
 exact(v4u (Q:=fun x=>x.size≤20) (by decide) (by decide) (by decide) h).bind (fun y hy=>vaf hy)
theorem v5g {n:Int}(h0:0<n)(h1:n≤256){l:List Int}{p s:Int}(h:Dr l p):Gives (vnq n l p s) (fun y=>Dr y.2.1 y.2.2.1):=by
 rw [v57]
 unfold vzh
 exact(vi2 h0 h1 h).bind (fun y hy=>vaf hy.2.2)
theorem wfp {l:List Int}{p s:Int}(h:Dr l p):Gives (vt7 l p s) (fun y=>y.1.size≤20∧y.2.1.size≤20∧Dr y.2.2.1 y.2.2.2.1):=by
 rw [v3b]
 unfold v0j
 refine(wbr h).bind (fun y1 h1=>(v5g (by decide) (by decide) h1.2).bind (fun y2 h2=>vaq (fun _=>vaf ⟨h1.1,h1.1,h2⟩) (fun _=>(wbr h2).bind (fun y3 h3=>vaq (fun _=>vaf ⟨h3.1,h1.1,h3.2⟩) (fun _=>vaf ⟨h1.1,h3.1,h3.2⟩)))))
theorem v4i {n c:Int}(h1:n≤1000):∀(m:Nat)(i:Int)(x:List Int)(q:Nat),0≤i→n-i≤m→m<q→(x.length:Int)=n→Gives (vae vj8 q (n,c,i,x)) (fun z=>(z.2.2.2.length:Int)=n):=by
 intro m
 induction m with
 |zero=>
  intro i x q h0 hm hq hx
  obtain⟨q,rfl⟩:∃r,q=r+1:=⟨q-1,by omega⟩
  apply vcb
  unfold vj8
  exact vaq (fun c=>by have c:=of_decide_eq_true c;(first|dsimp only at c|skip);omega) (fun _=>vaf (vjr hx))
 |succ m ih=>
  intro i x q h0 hm hq hx
  obtain⟨q,rfl⟩:∃r,q=r+1:=⟨q-1,by omega⟩
  apply vcb
  unfold vj8
  refine vaq (fun c=>?_) (fun _=>vaf (vjr hx))
  have c:=of_decide_eq_true c
  dsimp only at c
  refine vb7 ⟨h0,by dsimp only;omega⟩ (vaf (vu8 ?_))
  simp only [vcz (show -9223372036854775808≤i+1 by omega) (show i+1<9223372036854775808 by omega)]
  exact ih (i+1) _ q (by omega) (by omega) (by omega) (by rw [List.length_set];exact hx)
theorem vt6:∀(l:List Int)(f:Int→UInt8)(s:ByteArray),(l.foldl (fun s n=>s.push (f n)) s).size=s.size+l.length
 |[],f,s=>rfl
 |n::l,f,s=>by
  rw [List.foldl_cons,vt6 l f,ByteArray.size_push,List.length_cons];omega
theorem wc9 {n c:Int}(h0:0≤n)(h1:n≤20):Gives (vt3 n c) (fun y=>y.size≤20):=by
 rw [v6r]
 unfold vzb
 refine vb7 ⟨h0,Int.le_refl _,by simp only [VE.maxLen];omega⟩ ((v4i (by omega) 20 0 _ Fuel (by omega) (by omega) (by have:=vbg;omega) (by rw [List.length_replicate];omega)).bind (fun z hz=>vaf ?_))
 unfold vmb
 rw [vt6 _ (fun n=>UInt8.ofNat n.toNat)]
 show 0+_≤20
 omega
theorem v91 {T:Ty}{c:Nat}:∀{l:List T.D},(∀y∈l,T.wt y≤c)→wtL T l≤c*l.length
 |[],_=>by simp [wtL]
 |y::l,h=>by
  have h1:=h y (by simp)
  have h2:=v91 (l:=l) (fun z hz=>h z (List.mem_cons_of_mem y hz))
  simp only [wtL,List.length_cons,Nat.mul_add];omega
theorem wcf (l:List Int) (k):vp3 l k=k (decide ((l.length:Int)>1048576)):=by rw [v4d];rfl
end
end Go.VE
/- Plain laws: versions,bases. -/
namespace Go.VE
noncomputable section
set_option linter.unusedVariables false
set_option linter.unusedSimpArgs false
set_option maxRecDepth 100000
def vcc (v:tVersion.D):Bool:=vh5 v.1&&decide ((v.2.1.size:Int)≤12)&&(!v.2.2.1||van v.2.1 ⟨#[]⟩)&&vhv v.2.2.2 1 9999
def vbt (x y:tVersion.D):Bool:=vab x.1 y.1||(van x.1 y.1&&decide (x.2.2.2<y.2.2.2))
def vgp:Option tVersion.D→List tVersion.D→Bool
 |_,[]=>true
 |p,y::l=>vcc y&&(match p with|none=>true|some x=>vbt x y)&&vgp (some y) l
def ve2 (l:List tVersion.D):Bool:=vgp none l&&decide ((l.length:Int)≤120)
def cmpS (x y:ByteArray):Int:=bif vab x y then -1 else bif !(vab x y||van x y)then 1 else 0
def cmpI (x y:Int):Int:=bif decide (x<y)then -1 else bif decide (x>y)then 1 else 0
def cmpV (x y:tVersion.D):Int:=bif cmpS x.1 y.1 != 0 then cmpS x.1 y.1 else cmpI x.2.2.2 y.2.2.2
theorem wci (x y) (k):vvu x y k=k (cmpS x y):=by
 rw [v5e]
 unfold vy1 cmpS
 rw [v3u]
 unfold vz6
 simp only [vbx,Bool.not_true,cond_false]
 cases vab x y<;>cases van x y<;>rfl
theorem wcc (x y) (k):vvl x y k=k (cmpI x y):=by
 rw [v3y]
 unfold vze cmpI
 rw [v37]
 unfold vyj
 simp only [bne_self_eq_false,cond_false]
 cases decide (x<y)<;>cases decide (x>y)<;>rfl
theorem wby (x y:tVersion.D) (k):vmy x y k=k (cmpV x y):=by
 rw [v49]
 unfold v0b cmpV
 simp only [wci,wcc]
 cases cmpS x.1 y.1 != 0<;>rfl
theorem v9l (x y:tVersion.D):decide (cmpV x y≥0) = !vbt x y:=by
 unfold cmpV vbt cmpS cmpI
 cases h1:vab x.1 y.1
 ·cases h2:van x.1 y.1
  ·simp
  ·simp only [cond_false,Bool.or_true,Bool.not_true,bne_self_eq_false,Bool.false_or,Bool.true_and]
   by_cases h3:x.2.2.2<y.2.2.2
   ·simp [h3]
   ·by_cases h4:x.2.2.2>y.2.2.2
    ·simp [h3,h4]
    ·simp [h3,h4]
 ·simp
theorem vrk {u0:List tVersion.D}(hu:∀y∈u0,tVersion.wt y≤1048576)(hl:u0.length≤1048576) {u1 u2}:∀(l:List tVersion.D)(i:Nat),u0.drop i=l→∃j:Int,∀k,
  ver u0 u1 u2 l i k=k (bif vgp (if i=0 then none else some (u0.getD (i-1) (Ty.zero tVersion))) l then .inr j else .inl (false,j))
 |[],i,_=>⟨_,fun k=>rfl⟩
 |y::l,i,h=>by
  obtain⟨j,hj⟩:=vrk hu hl (u1:=u1) (u2:=u2) l (i+1) (vai h)
  have hlt:=vbn h
  have hy:=(vap h).2 (Ty.zero tVersion)
  have hyw:=hu y (vpa h)
  rw [vuk]at hyw
  rw [if_neg (by omega),show i+1-1=i by omega,hy]at hj
  simp only [ver,wb0 (show y.1.size≤1048576 by omega),v47,wby,v9l,hj,vgp,vcc]
  have hsz:decide ((y.2.1.size:Int)>12) = !decide ((y.2.1.size:Int)≤12):=by
   by_cases h:(y.2.1.size:Int)≤12
   ·simp [h]
   ·simp [h];omega
  rw [hsz]
  by_cases hi:i=0
  ·subst hi
   simp only [if_pos,show ¬((0:Nat):Int)>0 by omega,decide_false,cond_false,Bool.and_true]
   cases vh5 y.1<;>cases decide ((y.2.1.size:Int)≤12)<;>cases y.2.2.1<;>cases van y.2.1 ⟨#[]⟩<;>cases vhv y.2.2.2 1 9999<;>first|(refine⟨((0:Nat):Int),fun k=>?_⟩;simp;done)|(refine⟨j,fun k=>?_⟩;simp;done)
  ·have hw:IntKind.wrap .i64 ((i:Int)-1)=((i-1:Nat):Int):=by rw [vcz (by omega) (by omega)];omega
   have hrd:rd (Ty.zero tVersion) u0 ((i-1:Nat):Int)=u0.getD (i-1) (Ty.zero tVersion):=rfl
   simp only [if_neg hi,show (i:Int)>0 by omega,decide_true,cond_true,hw,hrd,if_pos (show 0≤((i-1:Nat):Int)∧((i-1:Nat):Int)<(u0.length:Int) by omega)]
   cases vh5 y.1<;>cases decide ((y.2.1.size:Int)≤12)<;>cases y.2.2.1<;>cases van y.2.1 ⟨#[]⟩<;>cases vhv y.2.2.2 1 9999<;>cases vbt (u0.getD (i-1) (Ty.zero tVersion)) y<;>first|(refine⟨(i:Int),fun k=>?_⟩;simp;done)|(refine⟨j,fun k=>?_⟩;simp;done)
theorem wbv {x:List tVersion.D}(hx:(Ty.slice tVersion).wt x≤1048576) (k):vpg x k=k (ve2 x):=by
 have hl:=wdv hx
 rw [wep (by omega)]
 unfold v2z ve2
 obtain⟨j,hj⟩:=vrk (u0:=x) (fun y hy=>v23 hy hx) hl (u1:=false) (u2:=x) x 0 rfl
 rw [hj]
 simp only [if_true]
 cases vgp none x<;>rfl
end
end Go.VE
/- Plain laws: keys in order;what a scan sees. -/
namespace Go.VE
noncomputable section
set_option linter.unusedVariables false
set_option linter.unusedSimpArgs false
set_option maxRecDepth 100000
theorem vi6 (x y:ByteArray):vab x y=decide (x.data.toList<y.data.toList):=by
 rw [vek,ByteArray.toList_eq,ByteArray.toList_eq]
 exact Go.Proofs.bytesLess_eq _ _
theorem vbp (x:ByteArray):vab x x=false:=by
 rw [vi6];exact decide_eq_false (List.lt_irrefl _)
theorem vdq {x y z:ByteArray}(h1:vab x y=true)(h2:vab y z=true):vab x z=true:=by
 rw [vi6]at *
 exact decide_eq_true (List.lt_trans (of_decide_eq_true h1) (of_decide_eq_true h2))
theorem vyb {x y:ByteArray}(h:vab x y=true):vab y x=false:=by
 cases h2:vab y x
 ·rfl
 ·have:=vdq h h2
  rw [vbp]at this
  cases this
theorem vfg {x y:ByteArray}(h1:vab x y=false)(h2:vab y x=false):x=y:=by
 rw [vi6]at *
 have a:=List.not_lt.1 (of_decide_eq_false h1)
 have b:=List.not_lt.1 (of_decide_eq_false h2)
 exact vu4 (List.le_antisymm b a)
theorem vlr (x y:ByteArray):van x y=decide (x=y):=by
 cases h:van x y
 ·symm;apply decide_eq_false;intro e;rw [e,vbx]at h;cases h
 ·symm;exact decide_eq_true (vcq h)
def Asc (l:List ByteArray):Prop:=l.Pairwise fun a b=>vab a b=true
theorem vwm:∀{l m:List ByteArray},Asc l→Asc m→(∀x,x∈l↔x∈m)→l=m
 |[],[],_,_,_=>rfl
 |[],b::m,_,_,h=>by have:=(h b).2 (by simp);cases this
 |a::l,[],_,_,h=>by have:=(h a).1 (by simp);cases this
 |a::l,b::m,hl,hm,h=>by
  obtain⟨h1,h2⟩:=List.pairwise_cons.1 hl
  obtain⟨h3,h4⟩:=List.pairwise_cons.1 hm
  have hab:a=b:=by
   rcases List.mem_cons.1 ((h a).1 (by simp))with e|e
   ·exact e
   ·rcases List.mem_cons.1 ((h b).2 (by simp))with e2|e2
    ·exact e2.symm
    ·have x1:=h3 a e
     have x2:=h1 b e2
     rw [vyb x1]at x2
     cases x2
  subst hab
  rw [vwm h2 h4 (fun x=>⟨fun hx=>by
   rcases List.mem_cons.1 ((h x).1 (by simp [hx]))with e|e
   ·subst e;have:=h1 x hx;rw [vbp]at this;cases this
   ·exact e,fun hx=>by
   rcases List.mem_cons.1 ((h x).2 (by simp [hx]))with e|e
   ·subst e;have:=h3 x hx;rw [vbp]at this;cases this
   ·exact e⟩)]
def ddT (p:ByteArray):List ByteArray→List ByteArray
 |[]=>[]
 |y::l=>bif van y p then ddT y l else y::ddT y l
def dd:List ByteArray→List ByteArray
 |[]=>[]
 |a::l=>a::ddT a l
theorem v3t:∀(l:List ByteArray)(p:ByteArray),(p::l).Pairwise (fun a b=>vab b a=false)→Asc (p::ddT p l)∧∀x,x∈p::ddT p l↔x∈p::l
 |[],p,_=>⟨List.pairwise_singleton _ _,fun x=>Iff.rfl⟩
 |y::l,p,h=>by
  obtain⟨h1,h2⟩:=List.pairwise_cons.1 h
  obtain⟨i1,i2⟩:=v3t l y h2
  simp only [ddT]
  cases he:van y p
  ·have hne:y≠p:=fun e=>by rw [e,vbx]at he;cases he
   have hlt:vab p y=true:=by
    cases hh:vab p y
    ·exact absurd (vfg (h1 y (by simp)) hh) hne
    ·rfl
   refine⟨List.pairwise_cons.2 ⟨fun x hx=>?_,i1⟩,fun x=>?_⟩
   ·rcases List.mem_cons.1 hx with e|e
    ·rw [e];exact hlt
    ·exact vdq hlt ((List.pairwise_cons.1 i1).1 x e)
   ·simp only [cond_false,List.mem_cons]
    have:=i2 x
    simp only [List.mem_cons]at this
    rw [this]
  ·have e:=vcq he
   subst e
   refine⟨i1,fun x=>?_⟩
   simp only [cond_true]
   rw [i2 x]
   simp
theorem war {l:List ByteArray}(h:l.Pairwise fun a b=>vab b a=false):Asc (dd l)∧∀x,x∈dd l↔x∈l:=by
 cases l with
 |nil=>exact⟨List.Pairwise.nil,fun x=>Iff.rfl⟩
 |cons a l=>exact v3t l a h
theorem vvg (xs:List ByteArray):(vgq xs).Pairwise (fun a b=>vab b a=false)∧∀x,x∈vgq xs↔x∈xs:=by
 unfold vgq
 constructor
 ·rw [List.pairwise_map]
  have:=List.pairwise_mergeSort (le:=fun x y:List UInt8=>decide (x≤y)) (fun a b c h1 h2=>decide_eq_true (List.le_trans (of_decide_eq_true h1) (of_decide_eq_true h2))) (fun a b=>by
   rcases List.le_total a b with h|h
   ·simp [h]
   ·simp [h]) (xs.map fun x=>x.data.toList)
  refine this.imp ?_
  intro a b hab
  rw [vi6]
  exact decide_eq_false (List.not_lt.2 (of_decide_eq_true hab))
 ·intro x
  have hp:=List.mergeSort_perm (xs.map fun x=>x.data.toList) (fun x y=>decide (x≤y))
  simp only [List.mem_map,hp.mem_iff]
  constructor
  ·rintro⟨l,⟨y,hy,rfl⟩,rfl⟩
   exact hy
  ·intro hx
   exact⟨x.data.toList,⟨x,hx,rfl⟩,rfl⟩
def insK (out:List ByteArray)(k:ByteArray):List ByteArray:=(out.filter fun y=>vab y k)++k::out.filter fun y=>!(vab y k||van y k)
theorem v0x {out:List ByteArray}(h:Asc out)(k:ByteArray):Asc (insK out k)∧∀x,x∈insK out k↔x=k∨x∈out:=by
 have gt:∀y,(!(vab y k||van y k))=true→vab k y=true:=by
  intro y hy
  simp only [Bool.not_eq_true',Bool.or_eq_false_iff]at hy
  cases hh:vab k y
  ·have:=vfg hy.1 hh
   rw [this,vbx]at hy
   cases hy.2
  ·rfl
 constructor
 ·unfold insK Asc
  rw [List.pairwise_append]
  refine⟨List.Pairwise.filter _ h,List.pairwise_cons.2 ⟨fun x hx=>gt x (List.mem_filter.1 hx).2,List.Pairwise.filter _ h⟩,fun a ha b hb=>?_⟩
  have ha':=(List.mem_filter.1 ha).2
  rcases List.mem_cons.1 hb with e|e
  ·rw [e];exact ha'
  ·exact vdq ha' (gt b (List.mem_filter.1 e).2)
 ·intro x
  unfold insK
  simp only [List.mem_append,List.mem_cons,List.mem_filter]
  constructor
  ·rintro(⟨h1,_⟩|h1|⟨h1,_⟩)
   ·exact .inr h1
   ·exact .inl h1
   ·exact .inr h1
  ·rintro(h1|h1)
   ·exact .inr (.inl h1)
   ·cases h2:vab x k
    ·cases h3:van x k
     ·exact .inr (.inr ⟨h1,by simp [h2,h3]⟩)
     ·exact .inr (.inl (vcq h3))
    ·exact .inl ⟨h1,rfl⟩
def vjp (r:tRange.D):List tVersion.D→List ByteArray→List ByteArray
 |[],out=>out
 |v::l,out=>vjp r l (bif vch r v.1 then insK out v.1 else out)
theorem vgf (r:tRange.D):∀(l:List tVersion.D)(out:List ByteArray),Asc out→Asc (vjp r l out)∧∀x,x∈vjp r l out↔x∈out∨(vch r x=true∧x∈l.map fun v=>v.1)
 |[],out,h=>⟨h,fun x=>by simp [vjp]⟩
 |v::l,out,h=>by
  simp only [vjp]
  cases hr:vch r v.1
  ·obtain⟨i1,i2⟩:=vgf r l out h
   refine⟨i1,fun x=>?_⟩
   rw [cond_false,i2 x]
   simp only [List.map_cons,List.mem_cons]
   constructor
   ·rintro(a|⟨a,b⟩)
    ·exact .inl a
    ·exact .inr ⟨a,.inr b⟩
   ·rintro(a|⟨a,b|b⟩)
    ·exact .inl a
    ·rw [b,hr]at a;cases a
    ·exact .inr ⟨a,b⟩
  ·obtain⟨j1,j2⟩:=v0x h v.1
   obtain⟨i1,i2⟩:=vgf r l (insK out v.1) j1
   refine⟨i1,fun x=>?_⟩
   rw [cond_true,i2 x,j2 x]
   simp only [List.map_cons,List.mem_cons]
   constructor
   ·rintro((a|a)|⟨a,b⟩)
    ·exact .inr ⟨by rw [a];exact hr,.inl a⟩
    ·exact .inl a
    ·exact .inr ⟨a,.inr b⟩
   ·rintro(a|⟨a,b|b⟩)
    ·exact .inl (.inr a)
    ·exact .inl (.inl b)
    ·exact .inr ⟨a,b⟩
def v1z (l:List tVersion.D):List ByteArray:=dd (vgq (l.map fun v=>v.1))
theorem v22 (r:tRange.D)(l:List tVersion.D):(v1z l).filter (fun k=>vch r k)=vjp r l []:=by
 obtain⟨s1,s2⟩:=vvg (l.map fun v=>v.1)
 obtain⟨d1,d2⟩:=war s1
 obtain⟨k1,k2⟩:=vgf r l [] List.Pairwise.nil
 refine vwm (List.Pairwise.filter _ d1) k1 (fun x=>?_)
 rw [List.mem_filter,k2 x]
 unfold v1z
 rw [d2 x,s2 x]
 constructor
 ·rintro⟨a,b⟩;exact .inr ⟨b,a⟩
 ·rintro(a|⟨a,b⟩)
  ·cases a
  ·exact⟨b,a⟩
end
end Go.VE
/- Plain laws: scans. -/
namespace Go.VE
noncomputable section
set_option linter.unusedVariables false
set_option linter.unusedSimpArgs false
set_option maxRecDepth 100000
theorem vk3 {α:Type}(y:α):∀(S:List α)(i:Nat),i<S.length→(S.set i y).take (i+1)=S.take i++[y]
 |[],i,h=>by simp at h
 |a::S,0,h=>by simp
 |a::S,i+1,h=>by
  have:=vk3 y S i (by simpa using h)
  simp only [List.set_cons_succ,List.take_succ_cons,this,List.cons_append]
theorem von {α:Type}(y:α):∀(S:List α)(i n:Nat),i<n→(S.set i y).drop n=S.drop n
 |[],i,n,h=>by simp
 |a::S,0,n+1,h=>by simp
 |a::S,i+1,n+1,h=>by simpa using von y S i n (by omega)
 |a::S,i,0,h=>by omega
theorem vl7 {st:Nat}:∀(l S:List ByteArray)(i k2 q:Nat)(p:ByteArray),S.drop (st+k2)=l→1≤k2→i+1≤st+k2→st+k2≤S.length→S.length≤3000000→l.length<q→S.getD (st+(k2-1)) (Ty.zero .str)=p→
  ∃(i':Nat) (k':Int) (S':List ByteArray),S'.length=S.length∧i'≤S'.length∧S'.take i'=S.take i++ddT p l∧∀K,vae vgj q ((i:Int),st,(k2:Int),S) K=K ((i':Int),st,k',S')
 |l,S,i,k2,0,p,_,_,_,_,_,h,_=>by omega
 |[],S,i,k2,q+1,p,hd,h1,hi,hs,hS,_,hp=>by
  have hge:S.length≤st+k2:=by
   have:=congrArg List.length hd
   rw [List.length_drop]at this
   simp at this
   omega
  refine⟨i,(k2:Int),S,rfl,by omega,by simp [ddT],fun K=>?_⟩
  simp only [vae,vgj,show ¬(k2:Int)<(S.length:Int)-(st:Int) by omega,decide_false,cond_false,Sum.elim_inr]
 |y::l,S,i,k2,q+1,p,hd,h1,hi,hs,hS,hq,hp=>by
  have hlt:=vbn hd
  have hy:S.getD (st+k2) (Ty.zero .str)=y:=(vap hd).2 _
  have w1:IntKind.wrap .i64 ((k2:Int)-1)=((k2-1:Nat):Int):=by rw [vcz (by omega) (by omega)];omega
  have w2:IntKind.wrap .i64 ((k2:Int)+1)=((k2+1:Nat):Int):=va4 (by omega)
  have w3:IntKind.wrap .i64 ((i:Int)+1)=((i+1:Nat):Int):=va4 (by omega)
  have c1:(k2:Int)<(S.length:Int)-(st:Int):=by omega
  have c2:(0:Int)≤(k2:Int):=by omega
  have c3:(0:Int)≤((k2-1:Nat):Int):=by omega
  have c4:((k2-1:Nat):Int)<(S.length:Int)-(st:Int):=by omega
  have c5:(0:Int)≤(i:Int):=by omega
  have c6:(i:Int)<(S.length:Int):=by omega
  cases he:van y p
  ·obtain⟨i',k',S',e1,e2,e3,e4⟩:=vl7 (st:=st) l (S.set i y) (i+1) (k2+1) q y (by rw [von y S i _ (by omega)];exact vai hd) (by omega) (by omega) (by rw [List.length_set];omega) (by rw [List.length_set];omega) (by simpa using hq)
    (by rw [show st+(k2+1-1)=st+k2 by omega];rw [←hy];simp only [List.getD,List.getElem?_set_ne (show i≠st+k2 by omega)])
   refine⟨i',k',S',by rw [e1,List.length_set],e2,?_,fun K=>?_⟩
   ·rw [e3,vk3 y S i (by omega),List.append_assoc]
    simp only [ddT,he,cond_false,List.singleton_append]
   ·simp only [vae,vgj,c1,c2,c3,c4,c5,c6,w1,decide_true,cond_true,and_self,if_true,Int.toNat_natCast,hy,hp,he,Bool.not_false,Sum.elim_inl,w2,w3]
    exact e4 K
  ·have hyp:=vcq he
   obtain⟨i',k',S',e1,e2,e3,e4⟩:=vl7 (st:=st) l S i (k2+1) q y (vai hd) (by omega) (by omega) (by omega) hS (by simpa using hq) (by rw [show st+(k2+1-1)=st+k2 by omega];exact hy)
   refine⟨i',k',S',e1,e2,?_,fun K=>?_⟩
   ·rw [e3]
    simp only [ddT,he,cond_true]
   ·simp only [vae,vgj,c1,c2,c3,c4,w1,decide_true,cond_true,and_self,if_true,Int.toNat_natCast,hy,hp,he,Bool.not_true,cond_false,Sum.elim_inl,w2]
    exact e4 K
theorem vql {T:List ByteArray}(hT:T.length≤3000000){r:List ByteArray}:∀(l:List ByteArray)(i q:Nat),T.drop i=l→1≤i→i≤T.length→l.length<q→
  (T=T.take i++ddT (T.getD (i-1) (Ty.zero .str)) l∧∃j:Int,∀K,vae vfm q ((i:Int),T,r) K=K (.inl (j,T,r)))∨
   ∃j:Int,∀K,vae vfm q ((i:Int),T,r) K=K (.inr (j,T.take i++ddT (T.getD (i-1) (Ty.zero .str)) l))
 |l,i,0,_,_,_,h=>by omega
 |[],i,q+1,hd,h1,hi,_=>by
  have hge:=va8 hd
  left
  have:T.take i=T:=List.take_of_length_le (by omega)
  refine⟨by rw [this];simp [ddT],(i:Int),fun K=>?_⟩
  simp only [vae,vfm,hge,decide_false,cond_false,Sum.elim_inr]
 |y::l,i,q+1,hd,h1,hi,hq=>by
  have hlt:=vbn hd
  have hy:T.getD i (Ty.zero .str)=y:=(vap hd).2 _
  have w1:IntKind.wrap .i64 ((i:Int)-1)=((i-1:Nat):Int):=by rw [vcz (by omega) (by omega)];omega
  have w2:IntKind.wrap .i64 ((i:Int)+1)=((i+1:Nat):Int):=va4 (by omega)
  have c1:(i:Int)<(T.length:Int):=by omega
  have c2:(0:Int)≤(i:Int):=by omega
  have c3:(0:Int)≤((i-1:Nat):Int):=by omega
  have c4:((i-1:Nat):Int)<(T.length:Int):=by omega
  have c5:(i:Int)≤(T.length:Int):=by omega
  generalize hp:T.getD (i-1) (Ty.zero .str)=p
  cases he:van y p
  ·have htk:T.take (i+1)=T.take i++[y]:=by
    rw [List.take_succ_eq_append_getElem hlt]
    congr 2
    rw [←hy]
    simp [List.getD,hlt]
   have ih:=vql hT (r:=r) l (i+1) q (vai hd) (by omega) (by omega) (by simpa using hq)
   rw [show i+1-1=i by omega,hy,htk,List.append_assoc,List.singleton_append]at ih
   have hdd:ddT p (y::l)=y::ddT y l:=by simp only [ddT,he,cond_false]
   rw [hdd]
   rcases ih with⟨e,j,hj⟩|⟨j,hj⟩
   ·left
    refine⟨e,j,fun K=>?_⟩
    simp only [vae,vfm,c1,c2,c3,c4,w1,decide_true,cond_true,and_self,if_true,Int.toNat_natCast,hy,hp,he,cond_false,Sum.elim_inl,w2]
    exact hj K
   ·right
    refine⟨j,fun K=>?_⟩
    simp only [vae,vfm,c1,c2,c3,c4,w1,decide_true,cond_true,and_self,if_true,Int.toNat_natCast,hy,hp,he,cond_false,Sum.elim_inl,w2]
    exact hj K
  ·right
   obtain⟨i',k',S',e1,e2,e3,e4⟩:=vl7 (st:=i) l T i 1 Fuel y (vai hd) (by omega) (by omega) (by omega) hT (by have:=vbg;have:=congrArg List.length hd;rw [List.length_drop]at this;simp only [List.length_cons]at this;omega) (by rw [show i+(1-1)=i by omega];exact hy)
   have hdd:ddT p (y::l)=ddT y l:=by simp only [ddT,he,cond_true]
   rw [hdd]
   refine⟨(i':Int),fun K=>?_⟩
   have e4':∀K,vae vgj Fuel ((i:Int),i,(1:Int),T) K=K ((i':Int),i,k',S'):=e4
   have d1:(0:Int)≤(i':Int):=by omega
   have d2:(i':Int)≤(S'.length:Int):=by omega
   have d3:(i':Int)≤((S'.take i'++List.replicate (S'.length-i') (Ty.zero .str)).length:Int):=by
    rw [List.length_append,List.length_take,List.length_replicate];omega
   have d4:(S'.take i'++List.replicate (S'.length-i') (Ty.zero .str)).take i'=S'.take i':=by
    rw [List.take_append_of_le_length (by rw [List.length_take];omega),List.take_take,Nat.min_self]
   rw [←e3]
   simp only [vae,vfm,c1,c2,c3,c4,c5,w1,decide_true,cond_true,and_self,if_true,Int.toNat_natCast,hy,hp,he,e4',d1,d2,d3,d4,Sum.elim_inr]
theorem vma {T:List ByteArray}(hT:T.length≤3000000):(∀k,vn4 T k=k (.inl (dd T)))∨(∀k,vn4 T k=k (.inr (dd T))):=by
 rw [v5o]
 unfold v0q
 match T,hT with
 |[],_=>exact .inl fun k=>rfl
 |[a],_=>exact .inl fun k=>rfl
 |a::b::l,hT=>
  have hn:¬(((a::b::l).length:Int)<2):=by simp only [List.length_cons];omega
  have h:=vql hT (r:=[]) (b::l) 1 Fuel rfl (by omega) (by simp) (by have:=vbg;simp only [List.length_cons]at hT ⊢;omega)
  have hd:(a::b::l).take 1++ddT ((a::b::l).getD (1-1) (Ty.zero .str)) (b::l)=dd (a::b::l):=rfl
  rw [hd]at h
  have h1:((1:Nat):Int)=1:=rfl
  rw [h1]at h
  simp only [hn,decide_false,cond_false]
  rcases h with⟨e,j,hj⟩|⟨j,hj⟩
  ·left
   intro k
   rw [hj]
   simp only [Sum.elim_inl]
   rw [←e]
  ·right
   intro k
   rw [hj]
   rfl
theorem vqs {u0}:∀(l:List tVersion.D)(s:List ByteArray)(i:Nat),s.length+l.length≤3000000→∃j:Int,∀k,vgk u0 l s i k=k (j,s++l.map fun v=>v.1)
 |[],s,i,_=>⟨_,fun k=>by simp [vgk];rfl⟩
 |y::l,s,i,h=>by
  simp only [List.length_cons]at h
  obtain⟨j,hj⟩:=vqs (u0:=u0) l (s++[y.1]) (i+1) (by simp;omega)
  refine⟨j,fun k=>?_⟩
  have hm:s.length+[y.1].length≤VE.maxLen:=by show _≤4294967296;simp;omega
  simp only [vgk,if_pos hm,hj,List.map_cons,List.append_assoc,List.singleton_append]
theorem wch {l:List tVersion.D}(hl:l.length≤1048576) (k):vrf l k=k (v1z l):=by
 rw [we6 (by omega)]
 unfold v3a
 obtain⟨j,hj⟩:=vqs (u0:=l) l [] 0 (by simp;omega)
 have hs:∀xs:List ByteArray,xs.length≤1000000000→∀k,vro xs k=k (vgq xs):=fun xs h k=>by
  rw [v6k]
  unfold vve
  rw [if_pos h]
 rw [hj]
 simp only [List.nil_append]
 rw [hs _ (by rw [List.length_map];omega)]
 rcases vma (T:=vgq (l.map fun v=>v.1)) (by rw [vfh,List.length_map];omega)with h|h<;>rw [h]<;>rfl
end
end Go.VE
/- Plain laws: what scans see. -/
namespace Go.VE
noncomputable section
set_option linter.unusedVariables false
set_option linter.unusedSimpArgs false
set_option maxRecDepth 100000
theorem vv9 {u0:List tVersion.D}{u1:Int}{ky r1 r2:ByteArray}{out:List ByteArray}(ho:out.length≤1048576):∀(l acc:List ByteArray)(j q:Nat),out.drop j=l→l.length<q→acc.length+l.length≤3000000→∃j':Int,∀K,
  vae vhn q (u0,u1,ky,(j:Int),r1,r2,out,acc) K=K (u0,u1,ky,j',r1,r2,out,acc++l.filter fun y=>vab y ky)
 |l,acc,j,0,_,h,_=>by omega
 |[],acc,j,q+1,hd,_,_=>by
  have hge:=va8 hd
  refine⟨(j:Int),fun K=>?_⟩
  simp only [vae,vhn,hge,decide_false,cond_false,Sum.elim_inr,List.filter_nil,List.append_nil]
 |y::l,acc,j,q+1,hd,hq,ha=>by
  simp only [List.length_cons]at ha
  have hlt:=vbn hd
  have hy:out.getD j (Ty.zero .str)=y:=(vap hd).2 _
  have w:IntKind.wrap .i64 ((j:Int)+1)=((j+1:Nat):Int):=va4 (by omega)
  have c1:(j:Int)<(out.length:Int):=by omega
  have c2:(0:Int)≤(j:Int):=by omega
  have hm:acc.length+[y].length≤VE.maxLen:=by show _≤4294967296;simp;omega
  cases he:vab y ky
  ·obtain⟨j',hj⟩:=vv9 (u0:=u0) (u1:=u1) (ky:=ky) (r1:=r1) (r2:=r2) ho l acc (j+1) q (vai hd) (by simpa using hq) (by omega)
   refine⟨j',fun K=>?_⟩
   simp only [vae,vhn,c1,c2,decide_true,cond_true,and_self,if_true,Int.toNat_natCast,hy,he,cond_false,Sum.elim_inl,w,List.filter_cons]
   exact hj K
  ·obtain⟨j',hj⟩:=vv9 (u0:=u0) (u1:=u1) (ky:=ky) (r1:=r1) (r2:=r2) ho l (acc++[y]) (j+1) q (vai hd) (by simpa using hq) (by simp;omega)
   refine⟨j',fun K=>?_⟩
   simp only [vae,vhn,c1,c2,decide_true,cond_true,and_self,if_true,Int.toNat_natCast,hy,he,if_pos hm,Sum.elim_inl,w,List.filter_cons]
   rw [hj K,List.append_assoc,List.singleton_append]
theorem vwp {u0:List tVersion.D}{u1:Int}{ky r1 r2:ByteArray}{out:List ByteArray}(ho:out.length≤1048576):∀(l acc:List ByteArray)(j q:Nat),out.drop j=l→l.length<q→acc.length+l.length≤3000000→∃j':Int,∀K,
  vae vhx q (u0,u1,ky,(j:Int),r1,r2,out,acc) K=K (u0,u1,ky,j',r1,r2,out,acc++l.filter fun y=>!(vab y ky||van y ky))
 |l,acc,j,0,_,h,_=>by omega
 |[],acc,j,q+1,hd,_,_=>by
  have hge:=va8 hd
  refine⟨(j:Int),fun K=>?_⟩
  simp only [vae,vhx,hge,decide_false,cond_false,Sum.elim_inr,List.filter_nil,List.append_nil]
 |y::l,acc,j,q+1,hd,hq,ha=>by
  simp only [List.length_cons]at ha
  have hlt:=vbn hd
  have hy:out.getD j (Ty.zero .str)=y:=(vap hd).2 _
  have w:IntKind.wrap .i64 ((j:Int)+1)=((j+1:Nat):Int):=va4 (by omega)
  have c1:(j:Int)<(out.length:Int):=by omega
  have c2:(0:Int)≤(j:Int):=by omega
  have hm:acc.length+[y].length≤VE.maxLen:=by show _≤4294967296;simp;omega
  cases he:(!(vab y ky||van y ky))
  ·obtain⟨j',hj⟩:=vwp (u0:=u0) (u1:=u1) (ky:=ky) (r1:=r1) (r2:=r2) ho l acc (j+1) q (vai hd) (by simpa using hq) (by omega)
   refine⟨j',fun K=>?_⟩
   simp only [vae,vhx,c1,c2,decide_true,cond_true,and_self,if_true,Int.toNat_natCast,hy,he,cond_false,Sum.elim_inl,w,List.filter_cons]
   exact hj K
  ·obtain⟨j',hj⟩:=vwp (u0:=u0) (u1:=u1) (ky:=ky) (r1:=r1) (r2:=r2) ho l (acc++[y]) (j+1) q (vai hd) (by simpa using hq) (by simp;omega)
   refine⟨j',fun K=>?_⟩
   simp only [vae,vhx,c1,c2,decide_true,cond_true,and_self,if_true,Int.toNat_natCast,hy,he,if_pos hm,Sum.elim_inl,w,List.filter_cons]
   rw [hj K,List.append_assoc,List.singleton_append]
theorem vl3:∀{l m:List ByteArray},Asc l→(∀x∈l,x∈m)→l.length≤m.length:=by
 intro l m h hm
 have nd:l.Nodup:=by
  refine List.Pairwise.imp ?_ h
  intro a b hab e
  rw [e,vbp]at hab
  cases hab
 exact List.Nodup.length_le_of_subset nd hm
theorem vv1 {u0:List tVersion.D}(hu:u0.length≤1048576){r:tRange.D}:∀(l:List tVersion.D)(out:List ByteArray)(i q:Nat),u0.drop i=l→l.length<q→Asc out→(∀x∈out,x∈u0.map fun v=>v.1)→∃j:Int,∀K,
  vae viy q (u0,(i:Int),r.1,r.2,out) K=K (u0,j,r.1,r.2,vjp r l out)
 |l,out,i,0,_,h,_,_=>by omega
 |[],out,i,q+1,hd,_,_,_=>by
  have hge:=va8 hd
  refine⟨(i:Int),fun K=>?_⟩
  simp only [vae,viy,hge,decide_false,cond_false,Sum.elim_inr,vjp]
 |y::l,out,i,q+1,hd,hq,ha,hsub=>by
  have hlt:=vbn hd
  have hy:rd (Ty.zero tVersion) u0 (i:Int)=y:=(vap hd).1 _
  have w:IntKind.wrap .i64 ((i:Int)+1)=((i+1:Nat):Int):=va4 (by omega)
  have c1:(i:Int)<(u0.length:Int):=by omega
  have c2:(0:Int)≤(i:Int):=by omega
  have hol:out.length≤1048576:=by
   have:=vl3 ha hsub
   rw [List.length_map]at this
   omega
  have hin:∀k,vq4 (r.1,r.2) y.1 k=k (vch r y.1):=fun k=>wcp r y.1 k
  simp only [vjp]
  cases hr:vch r y.1
  ·obtain⟨j,hj⟩:=vv1 hu (r:=r) l out (i+1) q (vai hd) (by simpa using hq) ha hsub
   refine⟨j,fun K=>?_⟩
   simp only [vae,viy,c1,c2,decide_true,cond_true,and_self,if_true,hy,hin,hr,Bool.not_false,Sum.elim_inl,w,cond_false]
   exact hj K
  ·obtain⟨j1,h1⟩:=vv9 (u0:=u0) (u1:=(i:Int)) (ky:=y.1) (r1:=r.1) (r2:=r.2) (out:=out) (by omega) out [] 0 Fuel rfl (Nat.lt_of_lt_of_le (by omega) vbg) (by simp;omega)
   have hfl:=List.length_filter_le (fun z=>vab z y.1) out
   obtain⟨j2,h2⟩:=vwp (u0:=u0) (u1:=(i:Int)) (ky:=y.1) (r1:=r.1) (r2:=r.2) (out:=out) (by omega) out ((out.filter fun z=>vab z y.1)++[y.1]) 0 Fuel rfl (Nat.lt_of_lt_of_le (by omega) vbg) (by simp;omega)
   have hz:((0:Nat):Int)=0:=rfl
   rw [hz]at h1 h2
   obtain⟨a1,a2⟩:=v0x ha y.1
   obtain⟨j,hj⟩:=vv1 hu (r:=r) l (insK out y.1) (i+1) q (vai hd) (by simpa using hq) a1 (fun x hx=>by
    rcases(a2 x).1 hx with e|e
    ·rw [e];exact List.mem_map.2 ⟨y,vpa hd,rfl⟩
    ·exact hsub x e)
   refine⟨j,fun K=>?_⟩
   have hm:(out.filter fun z=>vab z y.1).length+[y.1].length≤VE.maxLen:=by show _≤4294967296;simp only [List.length_singleton];omega
   simp only [vae,viy,c1,c2,decide_true,cond_true,and_self,if_true,hy,hin,hr,Bool.not_true,cond_false,h1,List.nil_append,if_pos hm,h2,Sum.elim_inl,w]
   have e:(out.filter fun z=>vab z y.1)++[y.1]++(out.filter fun z=>!(vab z y.1||van z y.1))=insK out y.1:=by unfold insK;rw [List.append_assoc,List.singleton_append]
   rw [e]
   exact hj K
theorem wb1 {l:List tVersion.D}(hl:l.length≤1048576)(r:tRange.D) (k):vtp l r k=k (vjp r l []):=by
 rw [v4h]
 unfold vzc
 obtain⟨j,hj⟩:=vv1 hl (r:=r) l [] 0 Fuel rfl (Nat.lt_of_lt_of_le (by omega) vbg) List.Pairwise.nil (fun x h=>by cases h)
 have hz:((0:Nat):Int)=0:=rfl
 rw [hz]at hj
 rw [hj]
def seeF (l:List tVersion.D)(snap:Int)(k:ByteArray):Option tRange.D:=bif (vbf l k snap).2 then some (k,(vbf l k snap).1)else none
theorem vpd {u0:List tVersion.D}(hu:u0.length≤1048576){snap:Int}{ks:List ByteArray}(hk:ks.length≤1048576):∀(l:List ByteArray)(out:List tRange.D)(i q:Nat),ks.drop i=l→l.length<q→out.length+l.length≤3000000→∃j:Int,∀K,
  vae vh3 q (u0,snap,(i:Int),out,ks) K=K (u0,snap,j,out++l.filterMap (seeF u0 snap),ks)
 |l,out,i,0,_,h,_=>by omega
 |[],out,i,q+1,hd,_,_=>by
  have hge:=va8 hd
  refine⟨(i:Int),fun K=>?_⟩
  simp only [vae,vh3,hge,decide_false,cond_false,Sum.elim_inr,List.filterMap_nil,List.append_nil]
 |y::l,out,i,q+1,hd,hq,ha=>by
  simp only [List.length_cons]at ha
  have hlt:=vbn hd
  have hy:ks.getD i (Ty.zero .str)=y:=(vap hd).2 _
  have w:IntKind.wrap .i64 ((i:Int)+1)=((i+1:Nat):Int):=va4 (by omega)
  have c1:(i:Int)<(ks.length:Int):=by omega
  have c2:(0:Int)≤(i:Int):=by omega
  cases he:(vbf u0 y snap).2
  ·obtain⟨j,hj⟩:=vpd hu (snap:=snap) hk l out (i+1) q (vai hd) (by simpa using hq) (by omega)
   refine⟨j,fun K=>?_⟩
   simp only [vae,vh3,c1,c2,decide_true,cond_true,and_self,if_true,Int.toNat_natCast,hy,v4f hu,he,cond_false,Sum.elim_inl,w,List.filterMap_cons,seeF]
   exact hj K
  ·have hm:out.length+[(y,(vbf u0 y snap).1)].length≤VE.maxLen:=by show _≤4294967296;simp;omega
   obtain⟨j,hj⟩:=vpd hu (snap:=snap) hk l (out++[(y,(vbf u0 y snap).1)]) (i+1) q (vai hd) (by simpa using hq) (by simp;omega)
   refine⟨j,fun K=>?_⟩
   simp only [vae,vh3,c1,c2,decide_true,cond_true,and_self,if_true,Int.toNat_natCast,hy,v4f hu,he,if_pos hm,Sum.elim_inl,w,List.filterMap_cons,seeF]
   rw [hj K,List.append_assoc,List.singleton_append]
def seeI (l:List tVersion.D)(r:tRange.D)(snap:Int)(k:ByteArray):Option tRange.D:=bif (vbf l k snap).2&&vch r k then some (k,(vbf l k snap).1)else none
theorem vlj {u0:List tVersion.D}(hu:u0.length≤1048576){snap:Int}{r:tRange.D}{ks:List ByteArray}(hk:ks.length≤1048576):∀(l:List ByteArray)(out:List tRange.D)(i q:Nat),ks.drop i=l→l.length<q→out.length+l.length≤3000000→∃j:Int,∀K,
  vae vgr q (u0,snap,(ks.length:Int),(i:Int),r.1,r.2,out,ks) K=K (u0,snap,(ks.length:Int),j,r.1,r.2,out++l.filterMap (seeI u0 r snap),ks)
 |l,out,i,0,_,h,_=>by omega
 |[],out,i,q+1,hd,_,_=>by
  have hge:=va8 hd
  refine⟨(i:Int),fun K=>?_⟩
  simp only [vae,vgr,hge,decide_false,cond_false,Sum.elim_inr,List.filterMap_nil,List.append_nil]
 |y::l,out,i,q+1,hd,hq,ha=>by
  simp only [List.length_cons]at ha
  have hlt:=vbn hd
  have hy:ks.getD i (Ty.zero .str)=y:=(vap hd).2 _
  have w:IntKind.wrap .i64 ((i:Int)+1)=((i+1:Nat):Int):=va4 (by omega)
  have c1:(i:Int)<(ks.length:Int):=by omega
  have c2:(0:Int)≤(i:Int):=by omega
  have hin:∀k,vri (r.1,r.2) y k=k (vch r y):=fun k=>wbu r y k
  cases he:(vbf u0 y snap).2
  ·obtain⟨j,hj⟩:=vlj hu (snap:=snap) (r:=r) hk l out (i+1) q (vai hd) (by simpa using hq) (by omega)
   refine⟨j,fun K=>?_⟩
   simp only [vae,vgr,c1,c2,decide_true,cond_true,and_self,if_true,Int.toNat_natCast,hy,vya hu,he,cond_false,Sum.elim_inl,w,List.filterMap_cons,seeI,Bool.false_and]
   exact hj K
  ·cases hr:vch r y
   ·obtain⟨j,hj⟩:=vlj hu (snap:=snap) (r:=r) hk l out (i+1) q (vai hd) (by simpa using hq) (by omega)
    refine⟨j,fun K=>?_⟩
    simp only [vae,vgr,c1,c2,decide_true,cond_true,and_self,if_true,Int.toNat_natCast,hy,vya hu,he,hin,hr,cond_false,Sum.elim_inl,w,List.filterMap_cons,seeI,Bool.true_and]
    exact hj K
   ·have hm:out.length+[(y,(vbf u0 y snap).1)].length≤VE.maxLen:=by show _≤4294967296;simp;omega
    obtain⟨j,hj⟩:=vlj hu (snap:=snap) (r:=r) hk l (out++[(y,(vbf u0 y snap).1)]) (i+1) q (vai hd) (by simpa using hq) (by simp;omega)
    refine⟨j,fun K=>?_⟩
    simp only [vae,vgr,c1,c2,decide_true,cond_true,and_self,if_true,Int.toNat_natCast,hy,vya hu,he,hin,hr,if_pos hm,Sum.elim_inl,w,List.filterMap_cons,seeI,Bool.true_and]
    rw [hj K,List.append_assoc,List.singleton_append]
def vft (l:List tVersion.D)(r:tRange.D)(snap:Int):List tRange.D:=(vjp r l []).filterMap (seeF l snap)
theorem filterMap_filter' {α β:Type}(p:α→Bool)(f:α→Option β):∀l:List α,l.filterMap (fun x=>bif p x then f x else none)=(l.filter p).filterMap f
 |[]=>rfl
 |x::l=>by
  simp only [List.filterMap_cons,List.filter_cons,filterMap_filter' p f l]
  cases p x<;>rfl
theorem v5t (l:List tVersion.D)(r:tRange.D)(snap:Int):(v1z l).filterMap (seeI l r snap)=vft l r snap:=by
 unfold vft
 rw [←v22,←filterMap_filter']
 congr 1
 funext k
 unfold seeI seeF
 cases vch r k<;>cases (vbf l k snap).2<;>rfl
theorem vm0 {l:List tVersion.D}(r:tRange.D):(vjp r l []).length≤l.length:=by
 obtain⟨k1,k2⟩:=vgf r l [] List.Pairwise.nil
 have:=vl3 (m:=l.map fun v=>v.1) k1 (fun x hx=>by
  rcases(k2 x).1 hx with e|e
  ·cases e
  ·exact e.2)
 rw [List.length_map]at this
 exact this
theorem vug (l:List tVersion.D):(v1z l).length≤l.length:=by
 obtain⟨s1,s2⟩:=vvg (l.map fun v=>v.1)
 obtain⟨d1,d2⟩:=war s1
 have:=vl3 (m:=l.map fun v=>v.1) d1 (fun x hx=>(s2 x).1 ((d2 x).1 hx))
 rw [List.length_map]at this
 exact this
theorem vd5 (l:List tVersion.D)(r:tRange.D)(snap:Int):(vft l r snap).length≤l.length:=by
 unfold vft
 exact Nat.le_trans (List.length_filterMap_le _ _) (vm0 r)
theorem vss {l:List tVersion.D}(hl:l.length≤1048576)(r:tRange.D)(snap:Int) (k):vhl l r snap k=k (vft l r snap):=by
 rw [v4l]
 unfold vyq
 have hk:=vm0 (l:=l) r
 obtain⟨j,hj⟩:=vpd (u0:=l) (by omega) (snap:=snap) (ks:=vjp r l []) (by omega) _ [] 0 Fuel rfl (Nat.lt_of_lt_of_le (by rw [List.drop_zero];omega) vbg) (by simp;omega)
 have hz:((0:Nat):Int)=0:=rfl
 rw [hz]at hj
 simp only [wb1 hl,hj,List.nil_append,List.drop_zero]
 rfl
theorem vn8 {l:List tVersion.D}(hl:l.length≤1048576)(r:tRange.D)(snap:Int) (k):vjx l r snap k=k (vft l r snap):=by
 rw [v4n]
 unfold v0k
 have hk:=vug l
 obtain⟨j,hj⟩:=vlj (u0:=l) (by omega) (snap:=snap) (r:=r) (ks:=v1z l) (by omega) _ [] 0 Fuel rfl (Nat.lt_of_lt_of_le (by rw [List.drop_zero];omega) vbg) (by simp;omega)
 have hz:((0:Nat):Int)=0:=rfl
 rw [hz]at hj
 simp only [wch (show l.length≤1048576 by omega),hj,List.nil_append,List.drop_zero]
 exact congrArg k (v5t l r snap)
end
end Go.VE
/- Plain laws: two lists of versions that look alike from a number on. -/
namespace Go.VE
noncomputable section
set_option linter.unusedVariables false
set_option linter.unusedSimpArgs false
set_option maxRecDepth 100000
theorem vqo {u0 u2}{α:Type}:∀(l:List (List tVersion.D))(s:Int)(i:Nat),0≤s→s+((l.map List.length).sum:Int)≤100000000→∃j:Int,∀k,vgm u0 u2 l s i k=k (s+((l.map List.length).sum:Int),j)
 |[],s,i,_,_=>⟨_,fun k=>by simp [vgm];rfl⟩
 |y::l,s,i,h0,h=>by
  simp only [List.map_cons,List.sum_cons]at h
  have hw:IntKind.wrap .i64 (s+(y.length:Int))=s+(y.length:Int):=vcz (by omega) (by omega)
  obtain⟨j,hj⟩:=vqo (u0:=u0) (u2:=u2) (α:=α) l (s+(y.length:Int)) (i+1) (by omega) (by push_cast at h;omega)
  refine⟨j,fun k=>?_⟩
  simp only [vgm,hw,show decide (s+(y.length:Int)<0)=false by simp;omega,cond_false,hj]
  congr 2
  simp only [List.map_cons,List.sum_cons]
  push_cast
  omega
theorem vrb {u0}:∀(l:List (List tVersion.D))(s:List tVersion.D)(i:Nat),s.length+(l.map List.length).sum≤100000000→∃j:Int,∀k,vg8 u0 l s i k=k (j,s++l.flatten)
 |[],s,i,_=>⟨_,fun k=>by simp [vg8];rfl⟩
 |y::l,s,i,h=>by
  simp only [List.map_cons,List.sum_cons]at h
  obtain⟨j,hj⟩:=vrb (u0:=u0) l (s++y) (i+1) (by simp;omega)
  refine⟨j,fun k=>?_⟩
  have hm:s.length+y.length≤VE.maxLen:=by show _≤4294967296;omega
  simp only [vg8,if_pos hm,hj,List.flatten_cons,List.append_assoc]
theorem wcr {a b:List tVersion.D}(ha:a.length≤1048577)(hb:b.length≤1048577) (k):vrd [a,b] k=k (a++b):=by
 rw [we5 (by simp)]
 unfold v2w
 obtain⟨j,hj⟩:=vqo (u0:=[a,b]) (u2:=[a,b]) (α:=Unit) [a,b] 0 0 (by omega) (by simp;omega)
 rw [hj]
 have hg:∀n:Int,0≤n→n≤100000000→∀k,vqh n k=k []:=by
  intro n h0 h1 k
  rw [v5l]
  unfold v0t
  have e0:IntKind.wrap .i64 ((0:Int)-0)=0:=vcz (by omega) (by omega)
  have e1:IntKind.wrap .i64 (n-0)=n:=by rw [vcz (by omega) (by omega)];omega
  simp only [e0,e1,show decide (n<0)=false by simp;omega,cond_false]
  by_cases hn:n>0
  ·have e3:0≤n∧n≤(VE.maxLen:Int):=⟨h0,by show n≤4294967296;omega⟩
   simp only [hn,decide_true,cond_true]
   rw [if_pos (by omega),if_pos e3,if_pos ⟨by omega,by omega⟩]
   simp
  ·simp only [hn,decide_false,cond_false]
 simp only [Int.zero_add]
 rw [hg _ (by omega) (by simp;omega)]
 obtain⟨j2,hj2⟩:=vrb (u0:=[a,b]) [a,b] [] 0 (by simp;omega)
 rw [hj2]
 simp
def prsF (u1:List tRange.D):List tRange.D→Nat→Bool
 |[],_=>true
 |y::l,i=>Ty.eqB tRange y (u1.getD i (Ty.zero tRange))&&prsF u1 l (i+1)
def vk2 (a b:List tRange.D):Bool:=bif (a.length:Int) != (b.length:Int)then false else prsF b a 0
theorem vqm {u0 u1:List tRange.D}(he:u0.length=u1.length) {u2}:∀(l:List tRange.D)(i:Nat),u0.drop i=l→∃j:Int,∀k,vip u0 u1 u2 l i k=k (bif prsF u1 l i then .inr j else .inl (false,j))
 |[],i,_=>⟨_,fun k=>rfl⟩
 |y::l,i,hd=>by
  have hlt:=vbn hd
  obtain⟨j,hj⟩:=vqm he (u2:=u2) l (i+1) (vai hd)
  have hrd:rd (Ty.zero tRange) u1 (i:Int)=u1.getD i (Ty.zero tRange):=rfl
  simp only [vip,if_pos (show 0≤(i:Int)∧(i:Int)<(u1.length:Int) by omega),hrd,hj,prsF]
  cases Ty.eqB tRange y (u1.getD i (Ty.zero tRange))
  ·exact⟨(i:Int),fun k=>rfl⟩
  ·exact⟨j,fun k=>rfl⟩
theorem vfb {u0 u1:List tRange.D}(he:u0.length=u1.length) {u2}:∀(l:List tRange.D)(i:Nat),u0.drop i=l→∃j:Int,∀k,viz u0 u1 u2 l i k=k (bif prsF u1 l i then .inr j else .inl (false,j))
 |[],i,_=>⟨_,fun k=>rfl⟩
 |y::l,i,hd=>by
  have hlt:=vbn hd
  obtain⟨j,hj⟩:=vfb he (u2:=u2) l (i+1) (vai hd)
  have hrd:rd (Ty.zero tRange) u1 (i:Int)=u1.getD i (Ty.zero tRange):=rfl
  simp only [viz,if_pos (show 0≤(i:Int)∧(i:Int)<(u1.length:Int) by omega),hrd,hj,prsF]
  cases Ty.eqB tRange y (u1.getD i (Ty.zero tRange))
  ·exact⟨(i:Int),fun k=>rfl⟩
  ·exact⟨j,fun k=>rfl⟩
theorem v58 {a b:List tRange.D}(ha:a.length≤1048576) (k):voi a b k=k (vk2 a b):=by
 rw [wew (by omega)]
 unfold v4a vk2
 by_cases he:a.length=b.length
 ·have hb:((a.length:Int) != (b.length:Int))=false:=by rw [he];simp
  obtain⟨j,hj⟩:=vqm he (u2:=false) a 0 rfl
  simp only [hb,cond_false,hj]
  cases prsF b a 0<;>rfl
 ·have hb:((a.length:Int) != (b.length:Int))=true:=by simp;omega
  simp only [hb,cond_true]
theorem vnk {a b:List tRange.D}(ha:a.length≤1048576) (k):vq0 a b k=k (vk2 a b):=by
 rw [wfo (by omega)]
 unfold v33 vk2
 by_cases he:a.length=b.length
 ·have hb:((a.length:Int) != (b.length:Int))=false:=by rw [he];simp
  obtain⟨j,hj⟩:=vfb he (u2:=false) a 0 rfl
  simp only [hb,cond_false,hj]
  cases prsF b a 0<;>rfl
 ·have hb:((a.length:Int) != (b.length:Int))=true:=by simp;omega
  simp only [hb,cond_true]
def allR:tRange.D:=((⟨#[97]⟩:ByteArray),(⟨#[122,122,122]⟩:ByteArray))
def vdh (a b:List tVersion.D)(at_:Int):Bool:=vk2 (vft a allR at_) (vft b allR at_)
def vgd (a b:List tVersion.D)(snap:Int):Bool:=vdh a b snap&&(a++b).all fun v=>!decide (v.2.2.2>snap)||vdh a b v.2.2.2
theorem v4o {a b:List tVersion.D}(ha:a.length≤1048576)(hb:b.length≤1048576)(n:Int) (k):vqu n a b k=k (vdh a b n,a,b):=by
 rw [v35]
 unfold vzq vdh
 have hA:∀k,vpz k=k allR:=fun k=>by rw [v4r];rfl
 have hs:=vd5 a allR n
 simp only [hA,vn8 ha,vn8 hb,vnk (show (vft a allR n).length≤1048576 by omega)]
theorem vup {a b:List tVersion.D}(ha:a.length≤1048576)(hb:b.length≤1048576){snap:Int}{v0:Bool}{L:List tVersion.D}(hL:L.length≤3000000):∀(l:List tVersion.D)(i q:Nat),L.drop i=l→l.length<q→∃j:Int,∀K,
  vae vke q (snap,v0,(L.length:Int),(i:Int),a,b,L) K=K (bif l.all (fun v=>!decide (v.2.2.2>snap)||vdh a b v.2.2.2)then .inr (snap,v0,(L.length:Int),j,a,b,L)else .inl (snap,false,(L.length:Int),j,a,b,L))
 |l,i,0,_,h=>by omega
 |[],i,q+1,hd,_=>by
  have hge:=va8 hd
  refine⟨(i:Int),fun K=>?_⟩
  simp only [vae,vke,hge,decide_false,cond_false,Sum.elim_inr]
  rfl
 |y::l,i,q+1,hd,hq=>by
  have hlt:=vbn hd
  have hy:L.getD i (Ty.zero tVersion)=y:=(vap hd).2 _
  have w:IntKind.wrap .i64 ((i:Int)+1)=((i+1:Nat):Int):=va4 (by omega)
  have c1:(i:Int)<(L.length:Int):=by omega
  have c2:(0:Int)≤(i:Int):=by omega
  obtain⟨j,hj⟩:=vup ha hb (snap:=snap) (v0:=v0) hL l (i+1) q (vai hd) (by simpa using hq)
  simp only [vae,vke,c1,c2,decide_true,cond_true,and_self,if_true,Int.toNat_natCast,hy,v4o ha hb,List.all_cons]
  cases decide (y.2.2.2>snap)
  ·refine⟨j,fun K=>?_⟩
   simp only [cond_false,Sum.elim_inl,w,Bool.not_false,Bool.true_or,Bool.true_and]
   exact hj K
  ·cases vdh a b y.2.2.2
   ·exact⟨(i:Int),fun K=>rfl⟩
   ·refine⟨j,fun K=>?_⟩
    simp only [cond_true,cond_false,Bool.not_true,Sum.elim_inl,w,Bool.or_true,Bool.true_and]
    exact hj K
theorem v4v {a b:List tVersion.D}(ha:a.length≤1048576)(hb:b.length≤1048576)(snap:Int) (k):vmt a b snap k=k (vgd a b snap):=by
 rw [v2t]
 unfold vyv vgd
 have hlen:(a++b).length≤3000000:=by rw [List.length_append];omega
 obtain⟨j,hj⟩:=vup ha hb (snap:=snap) (v0:=false) hlen (a++b) 0 Fuel rfl (Nat.lt_of_lt_of_le (by omega) vbg)
 have hz:((0:Nat):Int)=0:=rfl
 rw [hz]at hj
 simp only [wcr (show a.length≤1048577 by omega) (show b.length≤1048577 by omega),hj]
 cases (a++b).all (fun v=>!decide (v.2.2.2>snap)||vdh a b v.2.2.2)
 ·simp only [cond_false,Sum.elim_inl,Bool.and_false]
 ·simp only [cond_true,Sum.elim_inr,v4o ha hb,Bool.and_true]
theorem vz2 {a b:List tVersion.D}(ha:a.length≤1048576)(hb:b.length≤1048576){snap:Int}{v:Bool}{i c:Int} (K) :
  vb8 (a,b,snap,v,i,c,allR.1,allR.2) K=K (bif !decide (c>snap)||vdh a b c then .inr (a,b,snap,v,i,c,allR.1,allR.2)else .inl (a,b,snap,false,i,c,allR.1,allR.2)):=by
 have hs:=vd5 a allR c
 have e1:∀(l:List tVersion.D) (hl:l.length≤1048576) (k),vhl l (allR.1,allR.2) c k=k (vft l allR c):=fun l hl k=>vss hl allR c k
 simp only [vb8,e1 a ha,e1 b hb,v58 (show (vft a allR c).length≤1048576 by omega)]
 unfold vdh
 cases decide (c>snap)<;>cases vk2 (vft a allR c) (vft b allR c)<;>rfl
theorem vts {a b:List tVersion.D}(ha:a.length≤1048576)(hb:b.length≤1048576){snap:Int}:∀(l:List tVersion.D)(i q:Nat),(a++b).drop i=l→l.length<q→∃j:Int,∀K,
  vae vgu q (a,b,snap,false,(i:Int),allR.1,allR.2) K=K (bif l.all (fun v=>!decide (v.2.2.2>snap)||vdh a b v.2.2.2)then .inl (a,b,snap,false,j,allR.1,allR.2)else .inr (a,b,snap,false,j,allR.1,allR.2))
 |l,i,0,_,h=>by omega
 |[],i,q+1,hd,_=>by
  have hge:=va8 hd
  rw [List.length_append]at hge
  have w0:IntKind.wrap .i64 ((a.length:Int)+(b.length:Int))=((a.length+b.length:Nat):Int):=by rw [vcz (by omega) (by omega)];push_cast;rfl
  refine⟨(i:Int),fun K=>?_⟩
  simp only [vae,vgu,w0,hge,decide_false,cond_false,Sum.elim_inr]
  rfl
 |y::l,i,q+1,hd,hq=>by
  have hlt:=vbn hd
  rw [List.length_append]at hlt
  have hy:(a++b).getD i (Ty.zero tVersion)=y:=(vap hd).2 _
  have w0:IntKind.wrap .i64 ((a.length:Int)+(b.length:Int))=((a.length+b.length:Nat):Int):=by rw [vcz (by omega) (by omega)];push_cast;rfl
  have w:IntKind.wrap .i64 ((i:Int)+1)=((i+1:Nat):Int):=va4 (by omega)
  have c0:(i:Int)<((a.length+b.length:Nat):Int):=by omega
  have c2:(0:Int)≤(i:Int):=by omega
  obtain⟨j,hj⟩:=vts ha hb (snap:=snap) l (i+1) q (vai hd) (by simpa using hq)
  have hstep:∀K,vgu (a,b,snap,false,(i:Int),allR.1,allR.2) K=K (bif !decide (y.2.2.2>snap)||vdh a b y.2.2.2 then .inl (a,b,snap,false,((i+1:Nat):Int),allR.1,allR.2)else .inr (.inr (a,b,snap,false,(i:Int),allR.1,allR.2))):=by
   intro K
   by_cases hi:i<a.length
   ·have hya:rd (Ty.zero tVersion) a (i:Int)=y:=by
     rw [←hy]
     show a.getD i _=_
     simp [List.getD,List.getElem?_append_left hi]
    simp only [vgu,w0,c0,show (i:Int)<(a.length:Int) by omega,c2,and_self,if_true,decide_true,cond_true,hya,vz2 ha hb]
    cases (!decide (y.2.2.2>snap)||vdh a b y.2.2.2)
    ·rfl
    ·simp only [cond_true,Sum.elim_inr,w]
   ·have w1:IntKind.wrap .i64 ((i:Int)-(a.length:Int))=((i-a.length:Nat):Int):=by rw [vcz (by omega) (by omega)];omega
    have hyb:rd (Ty.zero tVersion) b ((i-a.length:Nat):Int)=y:=by
     rw [←hy]
     show b.getD (i-a.length) _=_
     simp [List.getD,List.getElem?_append_right (show a.length≤i by omega)]
    simp only [vgu,w0,c0,show ¬(i:Int)<(a.length:Int) by omega,decide_true,decide_false,cond_true,cond_false,w1,if_pos (show 0≤((i-a.length:Nat):Int)∧((i-a.length:Nat):Int)<(b.length:Int) by omega),hyb,vz2 ha hb]
    cases (!decide (y.2.2.2>snap)||vdh a b y.2.2.2)
    ·rfl
    ·simp only [cond_true,Sum.elim_inr,w]
  simp only [vae,hstep,List.all_cons]
  cases (!decide (y.2.2.2>snap)||vdh a b y.2.2.2)
  ·exact⟨(i:Int),fun K=>rfl⟩
  ·refine⟨j,fun K=>?_⟩
   simp only [cond_true,Sum.elim_inl,Bool.true_and]
   exact hj K
theorem wcb {a b:List tVersion.D}(ha:a.length≤1048576)(hb:b.length≤1048576)(snap:Int) (k):vp6 a b snap k=k (vgd a b snap):=by
 rw [v3x]
 unfold vzy vgd
 have hA:∀k,vtm k=k allR:=fun k=>by rw [v5h];rfl
 have hs:=vd5 a allR snap
 obtain⟨j,hj⟩:=vts ha hb (snap:=snap) (a++b) 0 Fuel rfl (Nat.lt_of_lt_of_le (by rw [List.length_append];omega) vbg)
 have hz:((0:Nat):Int)=0:=rfl
 rw [hz]at hj
 simp only [hA,vss ha,vss hb,v58 (show (vft a allR snap).length≤1048576 by omega),hj]
 rw [show vk2 (vft a allR snap) (vft b allR snap)=vdh a b snap from rfl]
 cases vdh a b snap
 ·rfl
 ·simp only [Bool.not_true,cond_false,Bool.true_and]
  cases (a++b).all (fun v=>!decide (v.2.2.2>snap)||vdh a b v.2.2.2)<;>rfl
end
end Go.VE
/- Plain laws: a write that is put into others. -/
namespace Go.VE
noncomputable section
set_option linter.unusedVariables false
set_option linter.unusedSimpArgs false
set_option maxRecDepth 100000
theorem vl1 {u0 u2 u3 u4}:∀(l s:List tWrite.D)(i:Nat),s.length+l.length≤3000000→∃j:Int,∀k,vfo u0 u2 u3 u4 l s i k=k (j,s++l.filter fun y=>vab y.1 u2)
 |[],s,i,_=>⟨_,fun k=>by simp [vfo];rfl⟩
 |y::l,s,i,h=>by
  simp only [List.length_cons]at h
  have hm:s.length+[y].length≤VE.maxLen:=by show _≤4294967296;simp;omega
  simp only [vfo,List.filter_cons]
  cases vab y.1 u2
  ·obtain⟨j,hj⟩:=vl1 (u0:=u0) (u2:=u2) (u3:=u3) (u4:=u4) l s (i+1) (by omega)
   exact⟨j,fun k=>by simp only [cond_false];exact hj k⟩
  ·obtain⟨j,hj⟩:=vl1 (u0:=u0) (u2:=u2) (u3:=u3) (u4:=u4) l (s++[y]) (i+1) (by simp;omega)
   exact⟨j,fun k=>by simp only [cond_true,if_pos hm,if_true];rw [hj k,List.append_assoc,List.singleton_append]⟩
theorem vlo {u0 u2 u3 u4}:∀(l s:List tWrite.D)(i:Nat),s.length+l.length≤3000000→∃j:Int,∀k,vfn u0 u2 u3 u4 l s i k=k (j,s++l.filter fun y=>!(vab y.1 u2||van y.1 u2))
 |[],s,i,_=>⟨_,fun k=>by simp [vfn];rfl⟩
 |y::l,s,i,h=>by
  simp only [List.length_cons]at h
  have hm:s.length+[y].length≤VE.maxLen:=by show _≤4294967296;simp;omega
  simp only [vfn,List.filter_cons]
  cases (!(vab y.1 u2||van y.1 u2))
  ·obtain⟨j,hj⟩:=vlo (u0:=u0) (u2:=u2) (u3:=u3) (u4:=u4) l s (i+1) (by omega)
   exact⟨j,fun k=>by simp only [cond_false];exact hj k⟩
  ·obtain⟨j,hj⟩:=vlo (u0:=u0) (u2:=u2) (u3:=u3) (u4:=u4) l (s++[y]) (i+1) (by simp;omega)
   exact⟨j,fun k=>by simp only [cond_true,if_pos hm,if_true];rw [hj k,List.append_assoc,List.singleton_append]⟩
def putB (l:List tWrite.D)(w:tWrite.D):List tWrite.D:=(l.filter fun y=>vab y.1 w.1)++w::l.filter fun y=>!(vab y.1 w.1||van y.1 w.1)
theorem wce {l:List tWrite.D}(hl:l.length≤1048576)(w:tWrite.D) (k):vo2 l w k=k (putB l w):=by
 rw [wd7 (by omega)]
 unfold v3n
 obtain⟨j,hj⟩:=vl1 (u0:=l) (u2:=w.1) (u3:=w.2.1) (u4:=w.2.2) l [] 0 (by simp;omega)
 have hf:=List.length_filter_le (fun y:tWrite.D=>vab y.1 w.1) l
 obtain⟨j2,hj2⟩:=vlo (u0:=l) (u2:=w.1) (u3:=w.2.1) (u4:=w.2.2) l ((l.filter fun y=>vab y.1 w.1)++[w]) 0 (by simp;omega)
 rw [hj]
 simp only [List.nil_append]
 rw [if_pos (by show _≤4294967296;simp only [List.length_singleton];omega),hj2]
 unfold putB
 rw [List.append_assoc,List.singleton_append]
def okP (l:List tWrite.D):Prop:=(l.Pairwise fun a b=>vab a.1 b.1=true)∧∀y∈l,y.2.2=true→y.2.1=⟨#[]⟩
theorem wco {l:List tWrite.D}(h:okP l){w:tWrite.D}(hw:w.2.2=true→w.2.1=⟨#[]⟩):okP (putB l w):=by
 have gt:∀y:ByteArray,(!(vab y w.1||van y w.1))=true→vab w.1 y=true:=by
  intro y hy
  simp only [Bool.not_eq_true',Bool.or_eq_false_iff]at hy
  cases hh:vab w.1 y
  ·have:=vfg hy.1 hh
   rw [this,vbx]at hy
   cases hy.2
  ·rfl
 constructor
 ·unfold putB
  rw [List.pairwise_append]
  refine⟨List.Pairwise.filter _ h.1,List.pairwise_cons.2 ⟨fun x hx=>gt x.1 (List.mem_filter.1 hx).2,List.Pairwise.filter _ h.1⟩,fun a ha b hb=>?_⟩
  have ha':=(List.mem_filter.1 ha).2
  rcases List.mem_cons.1 hb with e|e
  ·rw [e];exact ha'
  ·exact vdq ha' (gt b.1 (List.mem_filter.1 e).2)
 ·intro y hy
  unfold putB at hy
  rcases List.mem_append.1 hy with hy|hy
  ·exact h.2 y (List.mem_filter.1 hy).1
  ·rcases List.mem_cons.1 hy with e|e
   ·rw [e];exact hw
   ·exact h.2 y (List.mem_filter.1 e).1
end
end Go.VE
/- Plain laws: ReadRecord. -/
namespace Go.VE
noncomputable section
set_option linter.unusedVariables false
set_option linter.unusedSimpArgs false
set_option maxRecDepth 100000
abbrev zT:dTxn:=((0:Int),((0:Int),((0:Int),((0:Int),(([]:List vam),(([]:List va3),(false,(⟨#[]⟩:ByteArray))))))))
end
end Go.VE
/- Plain laws: a key that is written. -/
namespace Go.VE
noncomputable section
set_option linter.unusedVariables false
set_option linter.unusedSimpArgs false
set_option maxRecDepth 100000
def ascW (l:List tWrite.D):Prop:=l.Pairwise fun a b=>vab a.1 b.1=true
theorem v77 {l:List tWrite.D}{w y:tWrite.D}(h:y∈putB l w):y∈l∨y=w:=by
 unfold putB at h
 rcases List.mem_append.1 h with h|h
 ·exact .inl (List.mem_filter.1 h).1
 ·rcases List.mem_cons.1 h with h|h
  ·exact .inr h
  ·exact .inl (List.mem_filter.1 h).1
theorem vxi (l:List tWrite.D)(w:tWrite.D):(putB l w).length≤l.length+1:=by
 unfold putB
 have h1:l.length=(l.filter fun y=>vab y.1 w.1).length+(l.filter fun y=>!vab y.1 w.1).length:=by
  induction l with
  |nil=>rfl
  |cons y l ih=>cases h:vab y.1 w.1<;>simp [List.filter_cons,h]<;>omega
 have h2:(l.filter fun y=>!(vab y.1 w.1||van y.1 w.1)).length≤(l.filter fun y=>!vab y.1 w.1).length:=by
  have:(l.filter fun y=>!(vab y.1 w.1||van y.1 w.1))=(l.filter fun y=>!vab y.1 w.1).filter fun y=>!van y.1 w.1:=by
   rw [List.filter_filter]
   congr 1
   funext y
   cases vab y.1 w.1<;>cases van y.1 w.1<;>rfl
  rw [this]
  exact List.length_filter_le _ _
 rw [List.length_append,List.length_cons]
 omega
end
end Go.VE
/- Plain laws: versions that are put into others. -/
namespace Go.VE
noncomputable section
set_option linter.unusedVariables false
set_option linter.unusedSimpArgs false
set_option maxRecDepth 100000
def leV (v y:tVersion.D):Bool:=vab y.1 v.1||(van y.1 v.1&&decide (y.2.2.2≤v.2.2.2))
def insV (l:List tVersion.D)(v:tVersion.D):List tVersion.D:=l.takeWhile (leV v)++v::l.dropWhile (leV v)
def vh8 (cs:Int)(x:tWrite.D):tVersion.D:=(x.1,(x.2.1,(x.2.2,cs)))
def vds (l:List tVersion.D)(w:List tWrite.D)(cs:Int):List tVersion.D:=w.foldl (fun out x=>insV out (vh8 cs x)) l
theorem vow (l:List tVersion.D)(v:tVersion.D):(insV l v).length=l.length+1:=by
 unfold insV
 have:=congrArg List.length (List.takeWhile_append_dropWhile (p:=leV v) (l:=l))
 rw [List.length_append]at this
 rw [List.length_append,List.length_cons]
 omega
theorem vh4:∀(w:List tWrite.D)(l:List tVersion.D)(cs:Int),(vds l w cs).length=l.length+w.length
 |[],l,cs=>rfl
 |x::w,l,cs=>by
  show (vds (insV l (vh8 cs x)) w cs).length=_
  rw [vh4 w,vow,List.length_cons]
  omega
theorem v6c {A:List tWrite.D}{B C:Int}{L:List tVersion.D}{v1 v2:ByteArray}{v3:Bool}{v4:Int}(hL:L.length≤3000000):∀(l:List tVersion.D)(i q:Nat)(s:List tVersion.D),L.drop i=l→l.length<q→s.length+l.length≤3000000→∀K,
  vae vkk q (A,B,C,(i:Int),L,v1,v2,v3,v4,s) K=K (A,B,C,((i+(l.takeWhile (leV (v1,(v2,(v3,v4))))).length:Nat):Int),L,v1,v2,v3,v4,s++l.takeWhile (leV (v1,(v2,(v3,v4)))))
 |l,i,0,s,_,h,_=>by omega
 |[],i,q+1,s,hd,_,_=>fun K=>by
  have hge:=va8 hd
  simp only [vae,vkk,hge,decide_false,cond_false,Sum.elim_inr,List.takeWhile_nil,List.length_nil,Nat.add_zero,List.append_nil]
 |y::l,i,q+1,s,hd,hq,hs=>fun K=>by
  have hlt:=vbn hd
  have hy:L.getD i (Ty.zero tVersion)=y:=(vap hd).2 _
  have hw1:IntKind.wrap .i64 ((i:Int)+1)=((i+1:Nat):Int):=va4 (by omega)
  simp only [List.length_cons]at hs
  have hm:s.length+[y].length≤VE.maxLen:=by show _≤4294967296;simp;omega
  have ih:=v6c (A:=A) (B:=B) (C:=C) (v1:=v1) (v2:=v2) (v3:=v3) (v4:=v4) hL l (i+1) q (s++[y]) (vai hd) (by simpa using hq) (by rw [List.length_append,List.length_singleton];omega) K
  have e1:leV (v1,(v2,(v3,v4))) y=(vab y.1 v1||(van y.1 v1&&decide (y.2.2.2≤v4))):=rfl
  simp only [vae,vkk,vcu,show (i:Int)<(L.length:Int) by omega,show (0:Int)≤(i:Int) by omega,and_self,if_true,decide_true,cond_true,Int.toNat_natCast,hy,hw1,List.takeWhile_cons,e1,if_pos hm]
  have key:K (A,B,C,((i+1+(l.takeWhile (leV (v1,(v2,(v3,v4))))).length:Nat):Int),L,v1,v2,v3,v4,s++[y]++l.takeWhile (leV (v1,(v2,(v3,v4))))) =
    K (A,B,C,((i+(y::l.takeWhile (leV (v1,(v2,(v3,v4))))).length:Nat):Int),L,v1,v2,v3,v4,s++y::l.takeWhile (leV (v1,(v2,(v3,v4))))):=by
   rw [List.append_assoc,List.singleton_append,List.length_cons,show i+1+(l.takeWhile (leV (v1,(v2,(v3,v4))))).length=i+((l.takeWhile (leV (v1,(v2,(v3,v4))))).length+1) by omega]
  cases vab y.1 v1
  ·cases van y.1 v1
   ·simp only [cond_false,Sum.elim_inr,Bool.false_or,Bool.false_and,Bool.false_eq_true,if_false,List.length_nil,Nat.add_zero,List.append_nil]
   ·cases decide (y.2.2.2≤v4)
    ·simp only [cond_false,cond_true,Sum.elim_inr,Bool.false_or,Bool.true_and,Bool.false_eq_true,if_false,List.length_nil,Nat.add_zero,List.append_nil]
    ·simp only [cond_false,cond_true,Sum.elim_inl,Bool.false_or,Bool.true_and,if_true]
     rw [ih,key]
  ·simp only [cond_true,Sum.elim_inl,Bool.true_or,if_true]
   rw [ih,key]
theorem wcg (l:List tVersion.D)(v:tVersion.D):l.drop (l.takeWhile (leV v)).length=l.dropWhile (leV v):=by
 have:=List.takeWhile_append_dropWhile (p:=leV v) (l:=l)
 generalize l.takeWhile (leV v)=a at *
 generalize l.dropWhile (leV v)=b at *
 rw [←this,List.drop_left]
theorem wft (l:List tVersion.D)(v:tVersion.D):(l.takeWhile (leV v)).length+(l.dropWhile (leV v)).length=l.length:=by
 have:=congrArg List.length (List.takeWhile_append_dropWhile (p:=leV v) (l:=l))
 rwa [List.length_append]at this
theorem vzr {A:List tWrite.D}{cs:Int}(hA:A.length≤1048576):∀(l:List tWrite.D)(i q:Nat)(s:List tVersion.D),A.drop i=l→l.length<q→s.length+l.length≤2097152→∃j:Int,∀K,
  vae vj4 q (A,cs,(i:Int),s) K=K (A,cs,j,vds s l cs)
 |l,i,0,s,_,h,_=>by omega
 |[],i,q+1,s,hd,_,_=>by
  have hge:=va8 hd
  exact⟨(i:Int),fun K=>by simp only [vae,vj4,hge,decide_false,cond_false,Sum.elim_inr];rfl⟩
 |y::l,i,q+1,s,hd,hq,hs=>by
  have hlt:=vbn hd
  have hy:rd (Ty.zero tWrite) A (i:Int)=y:=(vap hd).1 _
  have hw1:IntKind.wrap .i64 ((i:Int)+1)=((i+1:Nat):Int):=va4 (by omega)
  simp only [List.length_cons]at hs
  have hil:=vow s (vh8 cs y)
  obtain⟨j,hj⟩:=vzr (cs:=cs) hA l (i+1) q (insV s (vh8 cs y)) (vai hd) (by simpa using hq) (by omega)
  refine⟨j,fun K=>?_⟩
  have hin:=v6c (A:=A) (B:=cs) (C:=(i:Int)) (v1:=y.1) (v2:=y.2.1) (v3:=y.2.2) (v4:=cs) (show s.length≤3000000 by omega) s 0 Fuel [] rfl (Nat.lt_of_lt_of_le (by omega) vbg) (by simp;omega)
  have hz:((0:Nat):Int)=0:=rfl
  rw [hz]at hin
  have htw:=wft s (vh8 cs y)
  simp only [vae,vj4,show (i:Int)<(A.length:Int) by omega,show (0:Int)≤(i:Int) by omega,and_self,if_true,decide_true,cond_true,hy,hw1,hin,List.nil_append,Nat.zero_add]
  change (if(s.takeWhile (leV (vh8 cs y))).length+[vh8 cs y].length≤VE.maxLen then if 0≤(((s.takeWhile (leV (vh8 cs y))).length:Nat):Int)∧(((s.takeWhile (leV (vh8 cs y))).length:Nat):Int)≤(s.length:Int)then
   if(s.takeWhile (leV (vh8 cs y))++[vh8 cs y]).length+(s.drop (((s.takeWhile (leV (vh8 cs y))).length:Nat):Int).toNat).length≤VE.maxLen then _ else none else none else none)=_
  rw [if_pos (by show _≤4294967296;simp only [List.length_singleton];omega),if_pos ⟨by omega,by omega⟩,if_pos (by show _≤4294967296;simp only [List.length_append,List.length_singleton,List.length_drop];omega),Int.toNat_natCast,wcg,List.append_assoc,List.singleton_append]
  exact hj K
theorem wb3 {l:List tVersion.D}{w:List tWrite.D}(hl:l.length≤1048576)(hw:w.length≤1048576)(cs:Int) (k):vqd l w cs k=k (vds l w cs):=by
 rw [v2u]
 unfold vzn
 rw [if_pos (by show _≤4294967296;simp;omega)]
 obtain⟨j,hj⟩:=vzr (cs:=cs) hw w 0 Fuel l rfl (Nat.lt_of_lt_of_le (by omega) vbg) (by omega)
 have hz:((0:Nat):Int)=0:=rfl
 rw [hz]at hj
 rw [List.nil_append,hj]
end
end Go.VE
/- Plain laws: versions in order;what is seen among them. -/
namespace Go.VE
noncomputable section
set_option linter.unusedVariables false
set_option linter.unusedSimpArgs false
set_option maxRecDepth 100000
theorem vqn {α:Type}{R:α→α→Prop}{p:α→Bool}:∀{l:List α},l.Pairwise R→(∀a b,R a b→p b=true→p a=true)→l.takeWhile p=l.filter p∧l.dropWhile p=l.filter (fun y=>!p y)
 |[],_,_=>⟨rfl,rfl⟩
 |y::l,h,hp=>by
  obtain⟨h1,h2⟩:=List.pairwise_cons.1 h
  obtain⟨a,b⟩:=vqn h2 hp
  cases hy:p y with
  |true=>simp [List.takeWhile_cons,List.dropWhile_cons,List.filter_cons,hy,a,b]
  |false=>
   have hall:∀z∈l,p z=false:=fun z hz=>by
    cases hz2:p z with
    |false=>rfl
    |true=>rw [hp y z (h1 z hz) hz2]at hy;cases hy
   have e1:l.filter p=[]:=List.filter_eq_nil_iff.2 fun z hz=>by simp [hall z hz]
   have e2:l.filter (fun y=>!p y)=l:=List.filter_eq_self.2 fun z hz=>by simp [hall z hz]
   simp [List.takeWhile_cons,List.dropWhile_cons,List.filter_cons,hy,e1,e2]
theorem vli (a b:tVersion.D):vbt a b=true↔vab a.1 b.1=true∨(a.1=b.1∧(a.2.2.2:Int)<b.2.2.2):=by
 unfold vbt
 rw [Bool.or_eq_true,Bool.and_eq_true,vlr,decide_eq_true_eq,decide_eq_true_eq]
theorem vy5 (v y:tVersion.D):leV v y=true↔vab y.1 v.1=true∨(y.1=v.1∧(y.2.2.2:Int)≤v.2.2.2):=by
 unfold leV
 rw [Bool.or_eq_true,Bool.and_eq_true,vlr,decide_eq_true_eq,decide_eq_true_eq]
theorem wfq {a b c:tVersion.D}(h1:vbt a b=true)(h2:vbt b c=true):vbt a c=true:=by
 rw [vli]at *
 rcases h1 with h1|⟨e1,h1⟩<;>rcases h2 with h2|⟨e2,h2⟩
 ·exact .inl (vdq h1 h2)
 ·exact .inl (e2▸h1)
 ·exact .inl (e1▸h2)
 ·exact .inr ⟨e1.trans e2,Int.lt_trans h1 h2⟩
theorem wag {v y:tVersion.D}(h:leV v y=false):vbt v y=true:=by
 rw [vli]
 cases h1:vab y.1 v.1 with
 |true=>rw [(vy5 v y).2 (.inl h1)]at h;cases h
 |false=>
  cases h2:vab v.1 y.1 with
  |true=>exact .inl rfl
  |false=>
   have e:=vfg h1 h2
   refine .inr ⟨e.symm,?_⟩
   rcases Int.lt_or_le v.2.2.2 y.2.2.2 with h3|h3
   ·exact h3
   ·rw [(vy5 v y).2 (.inr ⟨e,h3⟩)]at h;cases h
abbrev vbi (l:List tVersion.D):Prop:=l.Pairwise fun a b=>vbt a b=true
theorem v7o {v a b:tVersion.D}(h:vbt a b=true)(hb:leV v b=true):leV v a=true:=by
 rw [vli]at h
 rw [vy5]at *
 rcases h with h|⟨e,h⟩<;>rcases hb with hb|⟨eb,hb⟩
 ·exact .inl (vdq h hb)
 ·exact .inl (eb▸h)
 ·exact .inl (e▸hb)
 ·exact .inr ⟨e.trans eb,Int.le_of_lt (Int.lt_of_lt_of_le h hb)⟩
theorem vw8 {l:List tVersion.D}(h:vbi l){v:tVersion.D}(hn:∀y∈l,¬(y.1=v.1∧(y.2.2.2:Int)=v.2.2.2)):vbi (insV l v):=by
 obtain⟨e1,e2⟩:=vqn (p:=leV v) h (fun a b hab hb=>v7o hab hb)
 have hlt:∀y∈l,leV v y=true→vbt y v=true:=fun y hy hle=>by
  rw [vy5]at hle
  rw [vli]
  rcases hle with hle|⟨e,hle⟩
  ·exact .inl hle
  ·refine .inr ⟨e,?_⟩
   rcases Int.lt_or_eq_of_le hle with h1|h1
   ·exact h1
   ·exact absurd ⟨e,h1⟩ (hn y hy)
 unfold insV
 rw [e1,e2]
 refine List.pairwise_append.2 ⟨List.Pairwise.filter _ h,List.pairwise_cons.2 ⟨fun x hx=>?_,List.Pairwise.filter _ h⟩,fun a ha b hb=>?_⟩
 ·have:=(List.mem_filter.1 hx).2
  exact wag (by simpa using this)
 ·have ha':=hlt a (List.mem_filter.1 ha).1 (List.mem_filter.1 ha).2
  rcases List.mem_cons.1 hb with hb|hb
  ·rw [hb];exact ha'
  ·have:=(List.mem_filter.1 hb).2
   exact wfq ha' (wag (by simpa using this))
theorem vyw {l:List tVersion.D}{v y:tVersion.D}:y∈insV l v↔y∈l∨y=v:=by
 have e:=List.takeWhile_append_dropWhile (p:=leV v) (l:=l)
 unfold insV
 constructor
 ·intro h
  rcases List.mem_append.1 h with h|h
  ·exact .inl (by rw [←e];exact List.mem_append_left _ h)
  ·rcases List.mem_cons.1 h with h|h
   ·exact .inr h
   ·exact .inl (by rw [←e];exact List.mem_append_right _ h)
 ·intro h
  rcases h with h|h
  ·rw [←e]at h
   rcases List.mem_append.1 h with h|h
   ·exact List.mem_append_left _ h
   ·exact List.mem_append_right _ (List.mem_cons_of_mem _ h)
  ·rw [h];exact List.mem_append_right _ (List.mem_cons_self ..)
theorem vmm {cs:Int}{y:tVersion.D}:∀{w:List tWrite.D}{l:List tVersion.D},y∈vds l w cs↔y∈l∨∃x∈w,y=vh8 cs x
 |[],l=>⟨fun h=>.inl h,fun h=>h.elim id fun⟨x,hx,_⟩=>by cases hx⟩
 |x::w,l=>by
  show y∈vds (insV l (vh8 cs x)) w cs↔_
  rw [vmm,vyw]
  constructor
  ·rintro((h|h)|⟨z,hz,h⟩)
   ·exact .inl h
   ·exact .inr ⟨x,List.mem_cons_self ..,h⟩
   ·exact .inr ⟨z,List.mem_cons_of_mem _ hz,h⟩
  ·rintro(h|⟨z,hz,h⟩)
   ·exact .inl (.inl h)
   ·rcases List.mem_cons.1 hz with e|hz
    ·exact .inl (.inr (e▸h))
    ·exact .inr ⟨z,hz,h⟩
theorem viw {cs:Int}:∀{w:List tWrite.D}{l:List tVersion.D},vbi l→ascW w→(∀y∈l,(y.2.2.2:Int)<cs∨∀x∈w,y.1≠x.1)→vbi (vds l w cs)
 |[],l,h,_,_=>h
 |x::w,l,h,ha,hc=>by
  obtain⟨h1,h2⟩:=List.pairwise_cons.1 ha
  show vbi (vds (insV l (vh8 cs x)) w cs)
  refine viw (vw8 h fun y hy=>?_) h2 fun y hy=>?_
  ·rintro⟨e1,e2⟩
   rcases hc y hy with h3|h3
   ·have:(y.2.2.2:Int)=cs:=e2
    rw [this]at h3;exact Int.lt_irrefl _ h3
   ·exact h3 x (List.mem_cons_self ..) e1
  ·rcases vyw.1 hy with hy|hy
   ·rcases hc y hy with h3|h3
    ·exact .inl h3
    ·exact .inr fun z hz=>h3 z (List.mem_cons_of_mem _ hz)
   ·refine .inr fun z hz e=>?_
    have:=h1 z hz
    rw [hy]at e
    have e':x.1=z.1:=e
    rw [e',vbp]at this
    cases this
theorem vov:∀(l:List tVersion.D)(p:Option tVersion.D),vbi l→(∀y∈l,vcc y=true)→(∀x,p=some x→∀y∈l,vbt x y=true)→vgp p l=true
 |[],p,_,_,_=>rfl
 |y::l,p,h,ho,hp=>by
  obtain⟨h1,h2⟩:=List.pairwise_cons.1 h
  simp only [vgp,ho y (List.mem_cons_self ..),Bool.true_and,vov l (some y) h2 (fun z hz=>ho z (List.mem_cons_of_mem _ hz)) (fun x hx z hz=>by cases hx;exact h1 z hz),Bool.and_true]
  cases p with
  |none=>rfl
  |some x=>exact hp x rfl y (List.mem_cons_self ..)
theorem vs3 {l:List tVersion.D}(h:vbi l)(ho:∀y∈l,vcc y=true)(hl:l.length≤120):ve2 l=true:=by
 unfold ve2
 rw [vov l none h ho (fun x hx=>by cases hx),Bool.true_and,decide_eq_true_eq]
 omega
def atP (key:ByteArray)(snap:Int)(y:tVersion.D):Bool:=van y.1 key&&decide ((y.2.2.2:Int)≤snap)
def v6e (m:List tVersion.D):ByteArray×Bool:=
 match m.getLast? with
 |none=>(⟨#[]⟩,false)
 |some y=>bif y.2.2.1 then(⟨#[]⟩,false)else(y.2.1,true)
theorem vdx {u0:List tVersion.D}(hs:vbi u0){key:ByteArray}{snap:Int}:∀(l:List tVersion.D)(s:Int)(i:Nat),u0.drop i=l→
  (s<0∧(u0.take i).filter (atP key snap)=[]∨0≤s∧((u0.take i).filter (atP key snap)).getLast? = some (rd zV u0 s))→
  (vbh u0 key snap l s i<0∧u0.filter (atP key snap)=[]∨0≤vbh u0 key snap l s i∧(u0.filter (atP key snap)).getLast? = some (rd zV u0 (vbh u0 key snap l s i)))
 |[],s,i,hd,hi=>by
  have:u0.take i=u0:=by
   have hle:=List.drop_eq_nil_iff.1 hd
   exact List.take_of_length_le hle
  rw [this]at hi
  exact hi
 |y::l,s,i,hd,hi=>by
  have hlt:=vbn hd
  have hy:u0[i]? = some y:=by
   have:=congrArg (fun l=>l[0]?) hd
   simpa [List.getElem?_drop]using this
  have ht:u0.take (i+1)=u0.take i++[y]:=by
   rw [List.take_add_one,hy];rfl
  have hrd:rd zV u0 (i:Int)=y:=(vap hd).1 _
  simp only [vbh]
  have e:(van y.1 key&&(decide (y.2.2.2≤snap)&&(decide (s<0)||decide (y.2.2.2>(rd zV u0 s).2.2.2))))=atP key snap y:=by
   unfold atP
   cases h1:van y.1 key with
   |false=>rfl
   |true=>
    cases h2:decide ((y.2.2.2:Int)≤snap)with
    |false=>rfl
    |true=>
     simp only [Bool.true_and]
     rcases hi with⟨h3,_⟩|⟨h3,h4⟩
     ·rw [decide_eq_true h3];rfl
     ·have hm:=List.mem_of_getLast? h4
      have hk:=(List.mem_filter.1 hm).2
      unfold atP at hk
      rw [Bool.and_eq_true]at hk
      have hv:vbt (rd zV u0 s) y=true:=by
       have hp:(u0.take i++y::l).Pairwise fun a b=>vbt a b=true:=by
        rw [←hd,List.take_append_drop];exact hs
       exact(List.pairwise_append.1 hp).2.2 _ (List.mem_filter.1 hm).1 y (List.mem_cons_self ..)
      rw [vli]at hv
      have ek:(rd zV u0 s).1=y.1:=(vcq hk.1).trans (vcq h1).symm
      rcases hv with hv|⟨_,hv⟩
      ·rw [ek,vbp]at hv;cases hv
      ·rw [show decide (y.2.2.2>(rd zV u0 s).2.2.2)=true from decide_eq_true hv,Bool.or_true]
  have e':(bif van y.1 key&&(decide (y.2.2.2≤snap)&&(decide (s<0)||decide (y.2.2.2>(rd zV u0 s).2.2.2)))then vbh u0 key snap l (i:Int) (i+1)else vbh u0 key snap l s (i+1))=bif atP key snap y then vbh u0 key snap l (i:Int) (i+1)else vbh u0 key snap l s (i+1):=by rw [e]
  rw [e']
  cases hp:atP key snap y with
  |false=>
   rw [cond_false]
   refine vdx hs l s (i+1) (vai hd) ?_
   rw [ht,List.filter_append]
   simpa [List.filter_cons,hp]using hi
  |true=>
   rw [cond_true]
   refine vdx hs l (i:Int) (i+1) (vai hd) (.inr ⟨by omega,?_⟩)
   rw [ht,List.filter_append,hrd]
   simp [List.filter_cons,hp]
theorem vj1 {l:List tVersion.D}(h:vbi l)(key:ByteArray)(snap:Int):vbf l key snap=v6e (l.filter (atP key snap)):=by
 have:=vdx h (key:=key) (snap:=snap) l (-1) 0 rfl (.inl ⟨by omega,rfl⟩)
 unfold vbf v6e vbm
 rcases this with⟨h1,h2⟩|⟨h1,h2⟩
 ·rw [h2,decide_eq_true h1];rfl
 ·rw [h2,decide_eq_false (by omega)];rfl
theorem vka {m:List tVersion.D}(h:vbi m){v:tVersion.D}(hv:v∈m)(hm:∀y∈m,y.1=v.1∧(y.2.2.2:Int)≤v.2.2.2):m.getLast? = some v:=by
 obtain⟨a,b,rfl⟩:=List.append_of_mem hv
 cases b with
 |nil=>simp
 |cons z b=>
  exfalso
  have hp:=(List.pairwise_append.1 h).2.1
  have:=(List.pairwise_cons.1 hp).1 z (List.mem_cons_self ..)
  obtain⟨e1,e2⟩:=hm z (by simp)
  rw [vli,e1,vbp]at this
  rcases this with this|⟨_,this⟩
  ·cases this
  ·exact absurd this (Int.not_lt.2 e2)
theorem v0n {l:List tVersion.D}(h:vbi l){key:ByteArray}{snap:Int}(hs:(vbf l key snap).2=true):∃y∈l,y.1=key∧(y.2.2.2:Int)≤snap:=by
 rw [vj1 h]at hs
 unfold v6e at hs
 split at hs
 ·cases hs
 ·rename_i y hy
  have hm:=List.mem_filter.1 (List.mem_of_getLast? hy)
  have hk:=hm.2
  unfold atP at hk
  rw [Bool.and_eq_true,decide_eq_true_eq]at hk
  exact⟨y,hm.1,vcq hk.1,hk.2⟩
theorem vkv {α β:Type}(p:α→Bool)(f:α→β):∀l:List α,l.filterMap (fun x=>bif p x then some (f x)else none)=(l.filter p).map f
 |[]=>rfl
 |x::l=>by
  rw [List.filterMap_cons,List.filter_cons,vkv p f l]
  cases p x<;>rfl
theorem vzw {l m:List tVersion.D}(hl:vbi l)(hm:vbi m){s s':Int}(h:∀key,vbf l key s=vbf m key s')(r:tRange.D):vft l r s=vft m r s':=by
 have key:∀(a:List tVersion.D) (t:Int),vft a r t=((vjp r a []).filter fun k=>(vbf a k t).2).map fun k=>(k,(vbf a k t).1):=fun a t=>vkv _ _ _
 rw [key,key]
 have e:(vjp r l []).filter (fun k=>(vbf l k s).2)=(vjp r m []).filter (fun k=>(vbf m k s').2):=by
  obtain⟨a1,a2⟩:=vgf r l [] List.Pairwise.nil
  obtain⟨b1,b2⟩:=vgf r m [] List.Pairwise.nil
  refine vwm (List.Pairwise.filter _ a1) (List.Pairwise.filter _ b1) fun x=>?_
  rw [List.mem_filter,List.mem_filter,a2,b2,h]
  constructor
  ·rintro⟨h1|h1,h2⟩
   ·cases h1
   ·obtain⟨y,hy,e,_⟩:=v0n hm h2
    exact⟨.inr ⟨h1.1,List.mem_map.2 ⟨y,hy,e⟩⟩,h2⟩
  ·rintro⟨h1|h1,h2⟩
   ·cases h1
   ·obtain⟨y,hy,e,_⟩:=v0n hl (by rw [h];exact h2)
    exact⟨.inr ⟨h1.1,List.mem_map.2 ⟨y,hy,e⟩⟩,h2⟩
 rw [e]
 refine List.map_congr_left fun k _=>?_
 rw [h]
end
end Go.VE
/- Plain laws: draws of writes and versions,exactly. -/
namespace Go.VE
noncomputable section
set_option linter.unusedVariables false
set_option linter.unusedSimpArgs false
set_option maxRecDepth 100000
theorem v85:∀x∈[(⟨#[97]⟩:ByteArray),(⟨#[98]⟩:ByteArray),(⟨#[99]⟩:ByteArray),(⟨#[100]⟩:ByteArray),(⟨#[97,98]⟩:ByteArray)],vh5 x=true:=by decide
theorem wek {l:List Int}{p s:Int}(h:Dr l p):Gives (vm5 l p s) (fun y=>vh5 y.1=true∧Dr y.2.1 y.2.2.1):=by
 rw [vy9]
 unfold vtn
 exact(v4u (Q:=fun x=>vh5 x=true) v85 (by decide) (by decide) h).bind (fun y hy=>vaf hy)
theorem wem {l:List Int}{p s:Int}(h:Dr l p):Gives (vus l p s) (fun y=>vdw (y.1,(y.2.1,y.2.2.1))=true∧Dr y.2.2.2.1 y.2.2.2.2.1):=by
 rw [v29]
 unfold v0r
 refine(wek h).bind (fun y1 h1=>(v4u (Q:=fun x=>(x.size:Int)≤12) (by decide) (by decide) (by decide) h1.2).bind (fun y2 h2=>(v5g (by decide) (by decide) h2.2).bind (fun y3 h3=>vaq (fun _=>vaf ⟨?_,h3⟩) (fun _=>vaf ⟨?_,h3⟩))))
 ·unfold vdw
  rw [h1.1,vbx];rfl
 ·unfold vdw
  dsimp only
  rw [h1.1,decide_eq_true h2.1];rfl
def okX (n:Nat)(w:List tWrite.D):Prop:=ascW w∧(∀y∈w,vdw y=true)∧w.length≤n
theorem vyl {n m:Nat} {w}(h:okX n w)(hm:n≤m):okX m w:=⟨h.1,h.2.1,Nat.le_trans h.2.2 hm⟩
theorem vmx {w:tWrite.D}(h:vdw w=true)(hg:w.2.2=true):w.2.1=⟨#[]⟩:=by
 unfold vdw at h
 simp only [Bool.and_eq_true,hg,Bool.not_true,Bool.false_or]at h
 exact vcq h.2
theorem v9q {n:Nat}{l:List tWrite.D}(h:okX n l){w:tWrite.D}(hw:vdw w=true):okX (n+1) (putB l w):=by
 refine⟨(wco (l:=l) ⟨h.1,fun y hy hg=>vmx (h.2.1 y hy) hg⟩ (w:=w) (vmx hw)).1,fun y hy=>?_,Nat.le_trans (vxi l w) (Nat.succ_le_succ h.2.2)⟩
 rcases v77 hy with hy|rfl
 ·exact h.2.1 y hy
 ·exact hw
theorem v1m:∀(m i:Nat)(l:List Int)(p s:Int)(acc:List tWrite.D)(n:Nat),i+m=3→m<n→okX i acc→Dr l p→
  Gives (vae vkq n ((i:Int),l,p,s,acc)) (fun z=>Dr z.2.1 z.2.2.1∧okX 3 z.2.2.2.2):=by
 intro m
 induction m with
 |zero=>
  intro i l p s acc n hm hn ha h
  obtain⟨n,rfl⟩:∃q,n=q+1:=⟨n-1,by omega⟩
  apply vcb
  unfold vkq
  refine(vi2 (by decide) (by decide) h).bind (fun y hy=>vaq (fun c=>by have c:=of_decide_eq_true c;have:=hy.2.1;dsimp only at c;omega) (fun _=>vaf (vjr ⟨hy.2.2,vyl ha (by omega)⟩)))
 |succ m ih=>
  intro i l p s acc n hm hn ha h
  obtain⟨n,rfl⟩:∃q,n=q+1:=⟨n-1,by omega⟩
  have hlen:=ha.2.2
  apply vcb
  unfold vkq
  have hput:∀(w:tWrite.D),vdw w=true→Gives (vo2 acc w) (fun z=>okX (i+1) z):=fun w hw=>⟨putB acc w,v9q ha hw,fun k=>wce (by omega) w k⟩
  refine(vi2 (by decide) (by decide) h).bind (fun y hy=>vaq (fun c=>(wem hy.2.2).bind (fun y3 h3=>(hput _ h3.1).bind (fun y4 h4=>vaf (vu8 ?_)))) (fun _=>vaf (vjr ⟨hy.2.2,vyl ha (by omega)⟩)))
  have e:IntKind.wrap .i64 ((i:Int)+1)=((i+1:Nat):Int):=va4 (by omega)
  simp only [e]
  exact ih (i+1) _ _ _ _ n (by omega) (by omega) h4 h3.2
theorem wb5 (n:Nat):okX n []:=⟨List.Pairwise.nil,(fun y hy=>by simp at hy),Nat.zero_le _⟩
theorem wdl {l:List Int}{p s:Int}(h:Dr l p):Gives (vt1 l p s) (fun y=>Dr y.1 y.2.1∧okX 3 y.2.2.2):=by
 rw [v3v]
 unfold vzx
 exact(v1m 3 0 l p s [] Fuel rfl (by have:=vbg;omega) (wb5 _) h).bind (fun z hz=>vaf hz)
def okZ (n:Nat)(l:List tVersion.D):Prop:=vbi l∧(∀y∈l,vcc y=true∧(y.2.2.2:Int)≤(n:Int))∧l.length≤3*n
theorem vyo {n m:Nat} {w}(h:okZ n w)(hm:n≤m):okZ m w:=⟨h.1,fun y hy=>⟨(h.2.1 y hy).1,Int.le_trans (h.2.1 y hy).2 (by omega)⟩,Nat.le_trans h.2.2 (by omega)⟩
theorem v8m {w:tWrite.D}(h:vdw w=true){cs:Int}(h1:1≤cs)(h2:cs≤9999):vcc (vh8 cs w)=true:=by
 unfold vdw at h
 unfold vcc vh8 vhv
 simp only [Bool.and_eq_true]at h
 simp only [h.1.1,h.1.2,h.2,Bool.true_and]
 rw [Bool.and_eq_true,decide_eq_true_eq,decide_eq_true_eq]
 exact⟨h1,h2⟩
theorem wcy {n:Nat}(hn:n≤100){l:List tVersion.D}(h:okZ n l){w:List tWrite.D}(hw:okX 3 w):okZ (n+1) (vds l w ((n+1:Nat):Int)):=by
 refine⟨viw h.1 hw.1 fun y hy=>.inl ?_,fun y hy=>?_,?_⟩
 ·have:=(h.2.1 y hy).2
  exact Int.lt_of_le_of_lt this (by omega)
 ·rcases vmm.1 hy with hy|⟨x,hx,rfl⟩
  ·exact⟨(h.2.1 y hy).1,Int.le_trans (h.2.1 y hy).2 (by omega)⟩
  ·exact⟨v8m (hw.2.1 x hx) (by omega) (by omega),Int.le_refl _⟩
 ·have h1:=h.2.2
  have h2:=hw.2.2
  rw [vh4]
  omega
theorem v4m:∀(m i:Nat)(l:List Int)(p s:Int)(acc:List tVersion.D)(n:Nat),i+m=7→m<n→okZ i acc→Dr l p→
  Gives (vae vkc n ((i:Int),l,p,s,acc)) (fun z=>Dr z.2.1 z.2.2.1∧okZ 7 z.2.2.2.2):=by
 intro m
 induction m with
 |zero=>
  intro i l p s acc n hm hn ha h
  obtain⟨n,rfl⟩:∃q,n=q+1:=⟨n-1,by omega⟩
  apply vcb
  unfold vkc
  refine(vi2 (by decide) (by decide) h).bind (fun y hy=>vaq (fun c=>by have c:=of_decide_eq_true c;have:=hy.2.1;dsimp only at c;omega) (fun _=>vaf (vjr ⟨hy.2.2,vyo ha (by omega)⟩)))
 |succ m ih=>
  intro i l p s acc n hm hn ha h
  obtain⟨n,rfl⟩:∃q,n=q+1:=⟨n-1,by omega⟩
  have hlen:=ha.2.2
  apply vcb
  unfold vkc
  have e:IntKind.wrap .i64 ((i:Int)+1)=((i+1:Nat):Int):=va4 (by omega)
  have hput:∀(w:List tWrite.D),okX 3 w→Gives (vqd acc w ((i+1:Nat):Int)) (fun z=>okZ (i+1) z):=fun w hw=>⟨vds acc w ((i+1:Nat):Int),wcy (by omega) ha hw,fun k=>wb3 (by omega) (by have:=hw.2.2;omega) _ k⟩
  refine(vi2 (by decide) (by decide) h).bind (fun y hy=>vaq (fun c=>(wdl hy.2.2).bind (fun y3 h3=>?_)) (fun _=>vaf (vjr ⟨hy.2.2,vyo ha (by omega)⟩)))
  simp only [e]
  exact(hput _ h3.2).bind (fun y4 h4=>vaf (vu8 (ih (i+1) _ _ _ _ n (by omega) (by omega) h4 h3.1)))
theorem wcn (n:Nat):okZ n []:=⟨List.Pairwise.nil,(fun y hy=>by simp at hy),Nat.zero_le _⟩
theorem wa4 {l:List Int}{p s:Int}(h:Dr l p):Gives (vqc l p s) (fun y=>Dr y.1 y.2.1∧okZ 7 y.2.2.2):=by
 rw [v5w]
 unfold vy4
 exact(v4m 7 0 l p s [] Fuel rfl (by have:=vbg;omega) (wcn _) h).bind (fun z hz=>vaf hz)
theorem wc4 {a0:List Int}(hl:a0.length≤1048576):Gives (vrm a0) (okZ 7):=by
 rw [v2x]
 unfold vyy
 exact(vuh hl).bind (fun y1 h1=>(wa4 h1).bind (fun y2 h2=>vaf h2.2))
theorem vzi {l:List Int}{p s:Int}(h:Dr l p):Gives (vm4 l p s) (fun y=>Dr y.1 y.2.1∧y.2.2.2.length≤21):=by
 rw [v2v]
 unfold vyt
 refine(vi2 (by decide) (by decide) h).bind (fun y1 h1=>(vi2 (by decide) (by decide) h1.2.2).bind (fun y2 h2=>(wa4 h2.2.2).bind (fun y3 h3=>?_)))
 have hl:=h3.2.2.2
 have m3:0≤y2.1.tmod 3∧y2.1.tmod 3<((3:Nat):Int):=⟨Int.tmod_nonneg _ h2.1,Int.tmod_lt_of_pos _ (by decide)⟩
 have m4:0≤y2.1.tmod 4∧y2.1.tmod 4<((4:Nat):Int):=⟨Int.tmod_nonneg _ h2.1,Int.tmod_lt_of_pos _ (by decide)⟩
 have e:([]:List vaa)++y3.2.2.2=y3.2.2.2:=rfl
 simp only [e]
 generalize y3.2.2.2=L at hl
 refine vb7 (by show _≤4294967296;simp only [List.length_nil];omega) (vaq (fun c=>?_) (fun _=>vaf ⟨h3.1,hl⟩))
 have c:=of_decide_eq_true c
 have mL:0≤y2.1.tmod (L.length:Int)∧y2.1.tmod (L.length:Int)<(L.length:Int):=⟨Int.tmod_nonneg _ h2.1,Int.tmod_lt_of_pos _ (by omega)⟩
 refine vnz (by omega) (vaq (fun _=>vb7 m4 (vb7 mL (vaf ⟨h3.1,by rw [List.length_set];exact hl⟩))) (fun _=>vaq (fun _=>vb7 m3 (vb7 mL (vaf ⟨h3.1,by rw [List.length_set];exact hl⟩))) (fun _=>vaq (fun _=>vb7 mL (vaf ⟨h3.1,by rw [List.length_set];exact hl⟩)) (fun _=>vaq (fun _=>(wc9 (by decide) (by decide)).bind (fun y4 h4=>vb7 mL (vaf ⟨h3.1,by rw [List.length_set];exact hl⟩))) (fun _=>vaf ⟨h3.1,hl⟩)))))
theorem vjs {x:List tRange.D}(hl:x.length≤1048576) (k):vml x x k=k true:=by
 have loop:∀(l:List tRange.D) (i:Nat) (u2:Bool),x.drop i=l→∃j:Int,∀k,vio x x u2 l i k=k (.inr j):=by
  intro l
  induction l with
  |nil=>exact fun i u2 hd=>⟨(i:Int),fun k=>rfl⟩
  |cons y l ih=>
   intro i u2 hd
   have hlt:=vbn hd
   obtain⟨j,hj⟩:=ih (i+1) u2 (vai hd)
   have h1:=(vap hd).1
   have h2:=(vap hd).2
   refine⟨j,fun k=>?_⟩
   simp only [vio,h1,h2,show (0:Int)≤(i:Int) by omega,show (i:Int)<(x.length:Int) by omega,and_self,if_true,vbx,Bool.not_true,cond_false,Int.toNat_natCast,hj,Ty.eqB,Bool.and_self]
 rw [we2 (by omega)]
 unfold v3j
 obtain⟨j,hj⟩:=loop x 0 false rfl
 simp only [bne_self_eq_false,cond_false,hj,Sum.elim_inr]
end
end Go.VE
/- Plain laws: what is seen behind new versions;what who looks sees. -/
namespace Go.VE
noncomputable section
set_option linter.unusedVariables false
set_option linter.unusedSimpArgs false
set_option maxRecDepth 100000
theorem vx1 {l:List tVersion.D}(ho:∀y∈l,vcc y=true)(hl:l.length≤1000):(Ty.slice tVersion).wt l≤1048576:=by
 have h1:=v91 (T:=tVersion) (c:=40) (l:=l) (fun y hy=>by
  have:=ho y hy
  unfold vcc at this
  simp only [Bool.and_eq_true,decide_eq_true_eq]at this
  have hk:=v1n this.1.1.1
  have hv:=this.1.1.2
  have e:=vuk y
  omega)
 rw [Ty.wt_slice]
 omega
theorem wa6 {n:Nat}{l:List tVersion.D}(h:okZ n l):∀y∈l,vcc y=true:=fun y hy=>(h.2.1 y hy).1
end
end Go.VE
/- Plain laws: what is trimmed. -/
namespace Go.VE
noncomputable section
set_option linter.unusedVariables false
set_option linter.unusedSimpArgs false
set_option maxRecDepth 100000
def ve8 (L:List tVersion.D)(snap:Int):List tVersion.D→Nat→List tVersion.D
 |[],_=>[]
 |y::l,i=>bif decide (y.2.2.2>snap)||(vbm L y.1 snap==(i:Int))then y::ve8 L snap l (i+1)else ve8 L snap l (i+1)
def cntK (L:List tVersion.D)(key:ByteArray):Nat:=(L.filter fun y=>van y.1 key).length
def vhg (L:List tVersion.D)(snap:Int)(y:tVersion.D):Bool:=decide (y.2.2.2>snap) || !y.2.2.1||decide (1<cntK L y.1)
def vcf (L:List tVersion.D)(snap:Int):List tVersion.D:=(ve8 L snap L 0).filter (vhg (ve8 L snap L 0) snap)
theorem vld (L:List tVersion.D)(snap:Int):∀(l:List tVersion.D)(i:Nat),(ve8 L snap l i).length≤l.length
 |[],i=>Nat.le_refl _
 |y::l,i=>by
  have:=vld L snap l (i+1)
  simp only [ve8]
  cases decide (y.2.2.2>snap)||(vbm L y.1 snap==(i:Int))
  ·simp only [cond_false,List.length_cons];omega
  ·simp only [cond_true,List.length_cons];omega
theorem vkw (L:List tVersion.D)(snap:Int):(vcf L snap).length≤L.length:=Nat.le_trans (List.length_filter_le _ _) (vld L snap L 0)
theorem vlq {L:List tVersion.D}(hL:L.length≤1048576){snap:Int}{u2:List tVersion.D}:∀(l s:List tVersion.D)(i:Nat),s.length+l.length≤3000000→∃j:Int,∀k,vfr L snap u2 l s i k=k (j,s++ve8 L snap l i)
 |[],s,i,_=>⟨(i:Int),fun k=>by simp only [vfr,ve8,List.append_nil]⟩
 |y::l,s,i,h=>by
  simp only [List.length_cons]at h
  have hm:s.length+[y].length≤VE.maxLen:=by show _≤4294967296;simp only [List.length_singleton];omega
  obtain⟨j1,hj1⟩:=vlq hL (snap:=snap) (u2:=u2) l (s++[y]) (i+1) (by rw [List.length_append,List.length_singleton];omega)
  obtain⟨j2,hj2⟩:=vlq hL (snap:=snap) (u2:=u2) l s (i+1) (by omega)
  simp only [vfr,ve8,vcl,v6p hL,v81,cond_true,if_pos hm]
  cases decide (y.2.2.2>snap)with
  |true=>exact⟨j1,fun k=>by simp only [cond_true,Bool.true_or,hj1,List.append_assoc,List.singleton_append]⟩
  |false=>
   simp only [cond_false,Bool.false_or]
   cases vbm L y.1 snap==(i:Int)with
   |true=>exact⟨j1,fun k=>by simp only [cond_true,hj1,List.append_assoc,List.singleton_append]⟩
   |false=>exact⟨j2,fun k=>by simp only [cond_false,hj2]⟩
theorem vmc {L:List tVersion.D}(hL:L.length≤1048576){snap:Int}:∀(l s:List tVersion.D)(i:Nat),L.drop i=l→s.length+l.length≤3000000→∃j:Int,∀k,vfs L snap l s i k=k (j,s++ve8 L snap l i)
 |[],s,i,_,_=>⟨(i:Int),fun k=>by simp only [vfs,ve8,List.append_nil]⟩
 |y::l,s,i,hd,h=>by
  have hlt:=vbn hd
  have hy:rd (Ty.zero tVersion) L (i:Int)=y:=(vap hd).1 _
  simp only [List.length_cons]at h
  have hm:s.length+[y].length≤VE.maxLen:=by show _≤4294967296;simp only [List.length_singleton];omega
  have hi:0≤(i:Int)∧(i:Int)<(L.length:Int):=⟨by omega,by omega⟩
  obtain⟨j1,hj1⟩:=vmc hL (snap:=snap) l (s++[y]) (i+1) (vai hd) (by rw [List.length_append,List.length_singleton];omega)
  obtain⟨j2,hj2⟩:=vmc hL (snap:=snap) l s (i+1) (vai hd) (by omega)
  simp only [vfs,ve8,vcm,v5y hL,hy,cond_true,if_pos hm,if_pos hi]
  cases decide (y.2.2.2>snap)with
  |true=>exact⟨j1,fun k=>by simp only [cond_true,Bool.true_or,hj1,List.append_assoc,List.singleton_append]⟩
  |false=>
   simp only [cond_false,Bool.false_or]
   cases vbm L y.1 snap==(i:Int)with
   |true=>exact⟨j1,fun k=>by simp only [cond_true,hj1,List.append_assoc,List.singleton_append]⟩
   |false=>exact⟨j2,fun k=>by simp only [cond_false,hj2]⟩
theorem vlz {u0:ByteArray}{u4:List tVersion.D}:∀(l:List tVersion.D)(n i:Nat),n+l.length≤3000000→∃j:Int,∀k,vgv u0 u4 l (n:Int) i k=k (((n+cntK l u0:Nat):Int),j)
 |[],n,i,_=>⟨(i:Int),fun k=>rfl⟩
 |y::l,n,i,h=>by
  simp only [List.length_cons]at h
  have hw:IntKind.wrap .i64 ((n:Int)+1)=((n+1:Nat):Int):=va4 (by omega)
  obtain⟨j1,hj1⟩:=vlz (u0:=u0) (u4:=u4) l (n+1) (i+1) (by omega)
  obtain⟨j2,hj2⟩:=vlz (u0:=u0) (u4:=u4) l n (i+1) (by omega)
  have hc:cntK (y::l) u0=(bif van y.1 u0 then 1 else 0)+cntK l u0:=by
   unfold cntK
   rw [List.filter_cons]
   cases van y.1 u0
   ·simp
   ·simp only [if_true,List.length_cons,cond_true];omega
  rw [hc]
  simp only [vgv,hw]
  cases van y.1 u0 with
  |true=>exact⟨j1,fun k=>by simp only [cond_true,hj1];rw [show n+1+cntK l u0=n+(1+cntK l u0) by omega]⟩
  |false=>exact⟨j2,fun k=>by simp only [cond_false,hj2,Nat.zero_add]⟩
theorem wbz {u0:ByteArray}{u4:List tVersion.D}(h:u4.length≤1048576) (k):vrt u0 u4 k=k ((cntK u4 u0:Int),u4):=by
 rw [wex (by omega)]
 unfold v3f
 obtain⟨j,hj⟩:=vlz (u0:=u0) (u4:=u4) u4 0 0 (by omega)
 have hz:((0:Nat):Int)=0:=rfl
 rw [hz]at hj
 rw [hj,Nat.zero_add]
theorem vls {L:List tVersion.D}(hL:L.length≤1048576){snap:Int}:∀(l s:List tVersion.D)(i q:Nat),L.drop i=l→l.length<q→s.length+l.length≤3000000→∃j:Int,∀K,
  vae vil q (snap,(L.length:Int),(i:Int),s,L) K=K (snap,(L.length:Int),j,s++l.filter (vhg L snap),L)
 |l,s,i,0,_,h,_=>by omega
 |[],s,i,q+1,hd,_,_=>by
  have hge:=va8 hd
  exact⟨(i:Int),fun K=>by simp only [vae,vil,hge,decide_false,cond_false,Sum.elim_inr,List.filter_nil,List.append_nil]⟩
 |y::l,s,i,q+1,hd,hq,h=>by
  have hlt:=vbn hd
  have hy:L.getD i (Ty.zero tVersion)=y:=(vap hd).2 _
  have hw1:IntKind.wrap .i64 ((i:Int)+1)=((i+1:Nat):Int):=va4 (by omega)
  simp only [List.length_cons]at h
  have hm:s.length+[y].length≤VE.maxLen:=by show _≤4294967296;simp only [List.length_singleton];omega
  obtain⟨j1,hj1⟩:=vls hL (snap:=snap) l (s++[y]) (i+1) q (vai hd) (by simpa using hq) (by rw [List.length_append,List.length_singleton];omega)
  obtain⟨j2,hj2⟩:=vls hL (snap:=snap) l s (i+1) q (vai hd) (by simpa using hq) (by omega)
  have hc:(decide ((cntK L y.1:Int)>1))=decide (1<cntK L y.1):=by
   by_cases c:1<cntK L y.1
   ·rw [decide_eq_true c,decide_eq_true (by omega)]
   ·rw [decide_eq_false c,decide_eq_false (by omega)]
  have key:∀b:Bool,vhg L snap y=b→((y::l).filter (vhg L snap))=bif b then y::l.filter (vhg L snap)else l.filter (vhg L snap):=fun b hb=>by
   rw [List.filter_cons,hb];cases b<;>rfl
  have hk:vhg L snap y=(decide (y.2.2.2>snap) || !y.2.2.1||decide (1<cntK L y.1)):=rfl
  simp only [vae,vil,show (i:Int)<(L.length:Int) by omega,show (0:Int)≤(i:Int) by omega,and_self,if_true,decide_true,cond_true,Int.toNat_natCast,hy,hw1,if_pos hm,wbz hL,hc,Sum.elim_inl]
  cases h1:decide (y.2.2.2>snap)with
  |true=>
   rw [h1]at hk
   exact⟨j1,fun K=>by simp only [cond_true];rw [hj1,key _ hk];simp only [Bool.true_or,cond_true,List.append_assoc,List.singleton_append]⟩
  |false=>
   rw [h1]at hk
   cases h2:y.2.2.1 with
   |false=>
    rw [h2]at hk
    exact⟨j1,fun K=>by simp only [cond_true,cond_false,Bool.not_false];rw [hj1,key _ hk];simp only [Bool.false_or,Bool.not_false,Bool.true_or,cond_true,List.append_assoc,List.singleton_append]⟩
   |true=>
    rw [h2]at hk
    cases h3:decide (1<cntK L y.1)with
    |true=>
     rw [h3]at hk
     exact⟨j1,fun K=>by simp only [cond_true,cond_false,Bool.not_true];rw [hj1,key _ hk];simp only [Bool.false_or,Bool.not_true,cond_true,List.append_assoc,List.singleton_append]⟩
    |false=>
     rw [h3]at hk
     exact⟨j2,fun K=>by simp only [cond_false,Bool.not_true];rw [hj2,key _ hk];simp only [Bool.false_or,Bool.not_true,cond_false]⟩
theorem vvw {L:List tVersion.D}(hL:L.length≤1048576)(snap:Int) (k):vhp L snap k=k (vcf L snap):=by
 rw [wd6 (by omega)]
 unfold v20
 obtain⟨j,hj⟩:=vlq hL (snap:=snap) (u2:=L) L [] 0 (by simp;omega)
 have hl:=vld L snap L 0
 obtain⟨j2,hj2⟩:=vls (L:=ve8 L snap L 0) (by omega) (snap:=snap) (ve8 L snap L 0) [] 0 Fuel rfl (Nat.lt_of_lt_of_le (by omega) vbg) (by simp;omega)
 have hz:((0:Nat):Int)=0:=rfl
 rw [hz]at hj2
 rw [hj]
 simp only [List.nil_append]at hj2 ⊢
 rw [hj2]
 rfl
theorem vly {snap:Int}{u1:Nat}{L s:List tVersion.D}(h1:u1<L.length){y0:tVersion.D}(hy0:L.getD u1 (Ty.zero tVersion)=y0):∀(l:List tVersion.D)(n i:Nat),n+l.length≤3000000→∃j:Int,∀k,vgn snap (u1:Int) L s l (n:Int) i k=k (((n+cntK l y0.1:Nat):Int),j)
 |[],n,i,_=>⟨(i:Int),fun k=>rfl⟩
 |y::l,n,i,h=>by
  simp only [List.length_cons]at h
  have hw:IntKind.wrap .i64 ((n:Int)+1)=((n+1:Nat):Int):=va4 (by omega)
  obtain⟨j1,hj1⟩:=vly (snap:=snap) (s:=s) h1 hy0 l (n+1) (i+1) (by omega)
  obtain⟨j2,hj2⟩:=vly (snap:=snap) (s:=s) h1 hy0 l n (i+1) (by omega)
  have hc:cntK (y::l) y0.1=(bif van y.1 y0.1 then 1 else 0)+cntK l y0.1:=by
   unfold cntK
   rw [List.filter_cons]
   cases van y.1 y0.1
   ·simp
   ·simp only [if_true,List.length_cons,cond_true];omega
  rw [hc]
  have hi:0≤(u1:Int)∧(u1:Int)<(L.length:Int):=⟨by omega,by omega⟩
  simp only [vgn,hw,Int.toNat_natCast,hy0,if_pos hi]
  cases van y.1 y0.1 with
  |true=>exact⟨j1,fun k=>by simp only [cond_true,hj1];rw [show n+1+cntK l y0.1=n+(1+cntK l y0.1) by omega]⟩
  |false=>exact⟨j2,fun k=>by simp only [cond_false,hj2,Nat.zero_add]⟩
theorem vl4 {L:List tVersion.D}(hL:L.length≤1048576){snap:Int}:∀(l s:List tVersion.D)(i:Nat),L.drop i=l→s.length+l.length≤3000000→∃j:Int,∀k,vf0 snap L l s i k=k (j,s++l.filter (vhg L snap))
 |[],s,i,_,_=>⟨(i:Int),fun k=>by simp only [vf0,List.filter_nil,List.append_nil]⟩
 |y::l,s,i,hd,h=>by
  have hlt:=vbn hd
  have hy:L.getD i (Ty.zero tVersion)=y:=(vap hd).2 _
  simp only [List.length_cons]at h
  have hm:s.length+[y].length≤VE.maxLen:=by show _≤4294967296;simp only [List.length_singleton];omega
  have hi:0≤(i:Int)∧(i:Int)<(L.length:Int):=⟨by omega,by omega⟩
  obtain⟨j0,hj0⟩:=vly (snap:=snap) (s:=s) hlt hy L 0 0 (by omega)
  have hz:((0:Nat):Int)=0:=rfl
  rw [hz]at hj0
  obtain⟨j1,hj1⟩:=vl4 hL (snap:=snap) l (s++[y]) (i+1) (vai hd) (by rw [List.length_append,List.length_singleton];omega)
  obtain⟨j2,hj2⟩:=vl4 hL (snap:=snap) l s (i+1) (vai hd) (by omega)
  have hc:(decide (((0+cntK L y.1:Nat):Int)>1))=decide (1<cntK L y.1):=by
   rw [Nat.zero_add]
   by_cases c:1<cntK L y.1
   ·rw [decide_eq_true c,decide_eq_true (by omega)]
   ·rw [decide_eq_false c,decide_eq_false (by omega)]
  have key:∀b:Bool,vhg L snap y=b→((y::l).filter (vhg L snap))=bif b then y::l.filter (vhg L snap)else l.filter (vhg L snap):=fun b hb=>by
   rw [List.filter_cons,hb];cases b<;>rfl
  have hk:vhg L snap y=(decide (y.2.2.2>snap) || !y.2.2.1||decide (1<cntK L y.1)):=rfl
  simp only [vf0,hj0,vb6,Int.toNat_natCast,hy,cond_true,if_pos hm,if_pos hi,hc]
  cases h2:y.2.2.1 with
  |false=>
   rw [h2,Bool.not_false,Bool.or_true,Bool.true_or]at hk
   exact⟨j1,fun k=>by simp only [cond_true,Bool.not_false];rw [hj1,key _ hk];simp only [cond_true,List.append_assoc,List.singleton_append]⟩
  |true=>
   rw [h2,Bool.not_true,Bool.or_false]at hk
   cases h1:decide (y.2.2.2>snap)with
   |true=>
    rw [h1,Bool.true_or]at hk
    exact⟨j1,fun k=>by simp only [cond_true,cond_false,Bool.not_true];rw [hj1,key _ hk];simp only [cond_true,List.append_assoc,List.singleton_append]⟩
   |false=>
    rw [h1,Bool.false_or]at hk
    cases h3:decide (1<cntK L y.1)with
    |true=>
     rw [h3]at hk
     exact⟨j1,fun k=>by simp only [cond_true,cond_false,Bool.not_true];rw [hj1,key _ hk];simp only [cond_true,List.append_assoc,List.singleton_append]⟩
    |false=>
     rw [h3]at hk
     exact⟨j2,fun k=>by simp only [cond_false,Bool.not_true];rw [hj2,key _ hk];simp only [cond_false]⟩
theorem v4k {L:List tVersion.D}(hL:L.length≤1048576)(snap:Int) (k):vmg L snap k=k (vcf L snap):=by
 rw [wet (by omega)]
 unfold v4b
 obtain⟨j,hj⟩:=vmc hL (snap:=snap) L [] 0 rfl (by simp;omega)
 have hl:=vld L snap L 0
 obtain⟨j2,hj2⟩:=vl4 (L:=ve8 L snap L 0) (by omega) (snap:=snap) (ve8 L snap L 0) [] 0 rfl (by simp;omega)
 rw [hj]
 simp only [List.nil_append]at hj2 ⊢
 rw [v7c (by omega),hj2]
 rfl
def vg4 (L:List tVersion.D)(snap:Int)(y:tVersion.D):Bool:=decide ((y.2.2.2:Int)>snap)||decide ((L.filter (atP y.1 snap)).getLast? = some y)
theorem v1k {L:List tVersion.D}(h:vbi L){i j:Nat}(hi:i<L.length)(hj:j<L.length)(e:L[i]=L[j]):i=j:=by
 have irr:∀a:tVersion.D,¬vbt a a=true:=fun a ha=>by
  rw [vli,vbp]at ha
  rcases ha with ha|⟨_,ha⟩
  ·cases ha
  ·exact Int.lt_irrefl _ ha
 rcases Nat.lt_trichotomy i j with h1|h1|h1
 ·have:=List.pairwise_iff_getElem.1 h i j hi hj h1
  rw [e]at this
  exact absurd this (irr _)
 ·exact h1
 ·have:=List.pairwise_iff_getElem.1 h j i hj hi h1
  rw [e]at this
  exact absurd this (irr _)
theorem wbb {L:List tVersion.D}{i:Nat}(hi:i<L.length):rd zV L (i:Int)=L[i]:=by simp [rd,List.getElem?_eq_getElem hi]
theorem vm6 {L:List tVersion.D}(h:vbi L)(snap:Int):∀(l:List tVersion.D)(i:Nat),L.drop i=l→ve8 L snap l i=l.filter (vg4 L snap)
 |[],i,_=>rfl
 |y::l,i,hd=>by
  have hlt:=vbn hd
  have hy:L[i]=y:=by rw [←wbb hlt];exact(vap hd).1 _
  have e:(decide (y.2.2.2>snap)||(vbm L y.1 snap==(i:Int)))=vg4 L snap y:=by
   unfold vg4
   cases h1:decide ((y.2.2.2:Int)>snap)with
   |true=>rfl
   |false=>
    rw [Bool.false_or]
    have hb:=vg6 L y.1 snap
    have hs:=vdx h (key:=y.1) (snap:=snap) L (-1) 0 rfl (.inl ⟨by omega,rfl⟩)
    have hs:(vbm L y.1 snap<0∧L.filter (atP y.1 snap)=[]∨0≤vbm L y.1 snap∧(L.filter (atP y.1 snap)).getLast? = some (rd zV L (vbm L y.1 snap))):=hs
    rcases hs with⟨h2,h3⟩|⟨h2,h3⟩
    ·rw [h3]
     have:(vbm L y.1 snap==(i:Int))=false:=by rw [beq_eq_false_iff_ne];omega
     rw [this]
     simp
    ·rw [h3]
     obtain⟨r,hr⟩:=Int.eq_ofNat_of_zero_le h2
     rw [hr]at hb ⊢
     have hrl:r<L.length:=by omega
     rw [wbb hrl]
     by_cases c:r=i
     ·subst c
      rw [hy,beq_self_eq_true]
      exact(decide_eq_true rfl).symm
     ·have h5:((r:Int)==(i:Int))=false:=by rw [beq_eq_false_iff_ne];omega
      have h6:¬(some L[r]=some y):=fun e=>c (v1k h hrl hlt (by rw [hy];exact Option.some.inj e))
      rw [h5,Bool.false_or]
      exact(decide_eq_false h6).symm
  simp only [ve8,e,List.filter_cons,vm6 h snap l (i+1) (vai hd)]
  cases vg4 L snap y<;>rfl
theorem vj3 {L:List tVersion.D}(h:vbi L)(snap:Int):ve8 L snap L 0=L.filter (vg4 L snap):=vm6 h snap L 0 rfl
theorem vh0 (L:List tVersion.D)(h:vbi L)(snap:Int):vbi (vcf L snap)∧∀y∈vcf L snap,y∈L:=by
 unfold vcf
 rw [vj3 h]
 exact⟨List.Pairwise.filter _ (List.Pairwise.filter _ h),fun y hy=>(List.mem_filter.1 (List.mem_filter.1 hy).1).1⟩
theorem vg5 (key:ByteArray)(snap:Int)(y:tVersion.D):atP key snap y=true↔y.1=key∧(y.2.2.2:Int)≤snap:=by
 unfold atP
 rw [Bool.and_eq_true,vlr,decide_eq_true_eq,decide_eq_true_eq]
theorem vky (L:List tVersion.D)(snap:Int)(y:tVersion.D):vg4 L snap y=true↔(y.2.2.2:Int)>snap∨(L.filter (atP y.1 snap)).getLast? = some y:=by
 unfold vg4
 rw [Bool.or_eq_true,decide_eq_true_eq,decide_eq_true_eq]
theorem vlc (L:List tVersion.D)(snap:Int)(y:tVersion.D):vhg L snap y=true↔(y.2.2.2:Int)>snap∨y.2.2.1=false∨1<cntK L y.1:=by
 unfold vhg
 rw [Bool.or_eq_true,Bool.or_eq_true,decide_eq_true_eq,decide_eq_true_eq,Bool.not_eq_true',or_assoc]
theorem vs7 {L:List tVersion.D}{snap:Int}{y z:tVersion.D}(hy:y∈L.filter (vg4 L snap))(hz:z∈L.filter (vg4 L snap))(hk:y.1=z.1)(h1:(y.2.2.2:Int)≤snap)(h2:(z.2.2.2:Int)≤snap):y=z:=by
 have a:=(vky L snap y).1 (List.mem_filter.1 hy).2
 have b:=(vky L snap z).1 (List.mem_filter.1 hz).2
 rcases a with a|a
 ·exact absurd h1 (Int.not_le.2 a)
 rcases b with b|b
 ·exact absurd h2 (Int.not_le.2 b)
 rw [hk]at a
 rw [a]at b
 exact Option.some.inj b
theorem vf7 {L:List tVersion.D}(h:vbi L){snap:Int}{y:tVersion.D}:y∈vcf L snap↔y∈L.filter (vg4 L snap)∧vhg (L.filter (vg4 L snap)) snap y=true:=by
 unfold vcf
 rw [vj3 h,List.mem_filter]
theorem vuw {L:List tVersion.D}(h:vbi L){snap cs:Int}(hc:snap≤cs)(key:ByteArray):vbf (vcf L snap) key cs=vbf L key cs:=by
 obtain⟨hT,hsub⟩:=vh0 L h snap
 rw [vj1 hT,vj1 h]
 cases hm:(L.filter (atP key cs)).getLast? with
 |none=>
  have e:L.filter (atP key cs)=[]:=List.getLast?_eq_none_iff.1 hm
  have e2:(vcf L snap).filter (atP key cs)=[]:=List.filter_eq_nil_iff.2 fun y hy hp=>by
   have:y∈L.filter (atP key cs):=List.mem_filter.2 ⟨hsub y hy,hp⟩
   rw [e]at this;cases this
  rw [e,e2]
 |some y=>
  have hyA:=List.mem_of_getLast? hm
  have hyL:=(List.mem_filter.1 hyA).1
  obtain⟨hk,hyc⟩:=(vg5 key cs y).1 (List.mem_filter.1 hyA).2
  have hmax:∀z∈L,z.1=key→(z.2.2.2:Int)≤cs→(z.2.2.2:Int)≤y.2.2.2:=by
   intro z hz e1 e2
   have hzA:z∈L.filter (atP key cs):=List.mem_filter.2 ⟨hz,(vg5 key cs z).2 ⟨e1,e2⟩⟩
   obtain⟨a,ha⟩:=List.getLast?_eq_some_iff.1 hm
   rw [ha]at hzA
   have hs:vbi (a++[y]):=by rw [←ha];exact List.Pairwise.filter _ h
   rcases List.mem_append.1 hzA with h1|h1
   ·have:=(List.pairwise_append.1 hs).2.2 z h1 y (by simp)
    rw [vli,e1,hk,vbp]at this
    rcases this with this|⟨_,this⟩
    ·cases this
    ·exact Int.le_of_lt this
   ·rw [List.mem_singleton]at h1;rw [h1];exact Int.le_refl _
  have hkp:vg4 L snap y=true:=by
   rw [vky]
   rcases Int.lt_or_le snap y.2.2.2 with h1|h1
   ·exact .inl h1
   ·refine .inr (vka (List.Pairwise.filter _ h) (List.mem_filter.2 ⟨hyL,(vg5 y.1 snap y).2 ⟨rfl,h1⟩⟩) fun z hz=>?_)
    obtain⟨e1,e2⟩:=(vg5 y.1 snap z).1 (List.mem_filter.1 hz).2
    exact⟨e1,hmax z (List.mem_filter.1 hz).1 (e1.trans hk) (Int.le_trans e2 hc)⟩
  have hy1:y∈L.filter (vg4 L snap):=List.mem_filter.2 ⟨hyL,hkp⟩
  by_cases h2:vhg (L.filter (vg4 L snap)) snap y=true
  ·have hyT:y∈vcf L snap:=(vf7 h).2 ⟨hy1,h2⟩
   have hl:=vka (m:=(vcf L snap).filter (atP key cs)) (List.Pairwise.filter _ hT) (v:=y) (List.mem_filter.2 ⟨hyT,(vg5 key cs y).2 ⟨hk,hyc⟩⟩) fun z hz=>by
    obtain⟨e1,e2⟩:=(vg5 key cs z).1 (List.mem_filter.1 hz).2
    exact⟨e1.trans hk.symm,hmax z (hsub z (List.mem_filter.1 hz).1) e1 e2⟩
   unfold v6e
   rw [hl,hm]
  ·have h3:¬((y.2.2.2:Int)>snap)∧y.2.2.1=true∧¬1<cntK (L.filter (vg4 L snap)) y.1:=by
    rw [vlc]at h2
    refine⟨fun c=>h2 (.inl c),?_,fun c=>h2 (.inr (.inr c))⟩
    cases hg:y.2.2.1 with
    |true=>rfl
    |false=>exact absurd (.inr (.inl hg)) h2
   have e2:(vcf L snap).filter (atP key cs)=[]:=List.filter_eq_nil_iff.2 fun z hz hp=>by
    obtain⟨e1,e3⟩:=(vg5 key cs z).1 hp
    obtain⟨z1,z2⟩:=(vf7 h).1 hz
    have hzy:=hmax z (hsub z hz) e1 e3
    have:z=y:=vs7 z1 hy1 (e1.trans hk.symm) (Int.le_trans hzy (Int.not_lt.1 h3.1)) (Int.not_lt.1 h3.1)
    rw [this]at z2
    exact h2 z2
   unfold v6e
   rw [e2,hm]
   simp only [List.getLast?_nil,h3.2.1,cond_true]
theorem v78 {T:List tVersion.D}{y z:tVersion.D}(hy:y∈T)(hz:z∈T)(hk:z.1=y.1)(hne:z≠y):1<cntK T y.1:=by
 unfold cntK
 have h1:y∈T.filter (fun x=>van x.1 y.1):=List.mem_filter.2 ⟨hy,vbx _⟩
 have h2:z∈T.filter (fun x=>van x.1 y.1):=List.mem_filter.2 ⟨hz,by rw [hk];exact vbx _⟩
 rcases hl:T.filter (fun x=>van x.1 y.1)with _|⟨a,_|⟨b,l⟩⟩
 ·rw [hl]at h1;cases h1
 ·rw [hl,List.mem_singleton]at h1 h2
  exact absurd (h2.trans h1.symm) hne
 ·rw [hl];simp
theorem v3c {L:List tVersion.D}(h:vbi L)(snap:Int):vcf (vcf L snap) snap=vcf L snap:=by
 obtain⟨hT,hsub⟩:=vh0 L h snap
 have h1:ve8 (vcf L snap) snap (vcf L snap) 0=vcf L snap:=by
  rw [vj3 hT]
  refine List.filter_eq_self.2 fun y hy=>?_
  rw [vky]
  rcases Int.lt_or_le snap y.2.2.2 with c|c
  ·exact .inl c
  ·refine .inr (vka (List.Pairwise.filter _ hT) (List.mem_filter.2 ⟨hy,(vg5 y.1 snap y).2 ⟨rfl,c⟩⟩) fun z hz=>?_)
   obtain⟨e1,e2⟩:=(vg5 y.1 snap z).1 (List.mem_filter.1 hz).2
   have:=vs7 ((vf7 h).1 (List.mem_filter.1 hz).1).1 ((vf7 h).1 hy).1 e1 e2 c
   rw [this]
   exact⟨rfl,Int.le_refl _⟩
 have h0:vcf (vcf L snap) snap=(ve8 (vcf L snap) snap (vcf L snap) 0).filter (vhg (ve8 (vcf L snap) snap (vcf L snap) 0) snap):=rfl
 rw [h0,h1]
 refine List.filter_eq_self.2 fun y hy=>?_
 rw [vlc]
 obtain⟨y1,y2⟩:=(vf7 h).1 hy
 rcases(vlc _ snap y).1 y2 with c|c|c
 ·exact .inl c
 ·exact .inr (.inl c)
 ·rcases Int.lt_or_le snap y.2.2.2 with d|d
  ·exact .inl d
  ·
   refine .inr (.inr ?_)
   have hm1:y∈(L.filter (vg4 L snap)).filter (fun x=>van x.1 y.1):=List.mem_filter.2 ⟨y1,vbx _⟩
   have hp:((L.filter (vg4 L snap)).filter (fun x=>van x.1 y.1)).Pairwise fun a b=>vbt a b=true:=List.Pairwise.filter _ (List.Pairwise.filter _ h)
   obtain⟨z,hz,hne⟩:∃z∈(L.filter (vg4 L snap)).filter (fun x=>van x.1 y.1),z≠y:=by
    unfold cntK at c
    rcases hl:(L.filter (vg4 L snap)).filter (fun x=>van x.1 y.1)with _|⟨a,_|⟨b,l⟩⟩
    ·rw [hl]at c;simp at c
    ·rw [hl]at c;simp at c
    ·rw [hl]at hp
     have hab:a≠b:=fun e=>by
      have:=(List.pairwise_cons.1 hp).1 b (by simp)
      rw [e,vli,vbp]at this
      rcases this with this|⟨_,this⟩
      ·cases this
      ·exact Int.lt_irrefl _ this
     by_cases ha:a=y
     ·exact⟨b,by rw [hl];simp,fun e=>hab (ha.trans e.symm)⟩
     ·exact⟨a,by rw [hl];simp,ha⟩
   obtain⟨z1,z2⟩:=List.mem_filter.1 hz
   have zk:=vcq z2
   have zs:(z.2.2.2:Int)>snap:=by
    rcases Int.lt_or_le snap z.2.2.2 with e|e
    ·exact e
    ·exact absurd (vs7 z1 y1 zk e d) hne
   have zT:z∈vcf L snap:=(vf7 h).2 ⟨z1,(vlc _ snap z).2 (.inl zs)⟩
   exact v78 hy zT zk hne
theorem vxp (x:List tRange.D):vk2 x x=true:=by
 have loop:∀(l:List tRange.D) (i:Nat),x.drop i=l→prsF x l i=true:=by
  intro l
  induction l with
  |nil=>exact fun i _=>rfl
  |cons y l ih=>
   intro i hd
   have h1:=(vap hd).2
   simp only [prsF,h1,ih (i+1) (vai hd),Ty.eqB,vbx,Bool.and_self]
 unfold vk2
 rw [bne_self_eq_false,cond_false]
 exact loop x 0 rfl
theorem v4w {L:List tVersion.D}(h:vbi L)(snap:Int):vgd (vcf L snap) L snap=true:=by
 have hT:=(vh0 L h snap).1
 have key:∀cs,snap≤cs→vdh (vcf L snap) L cs=true:=fun cs hc=>by
  unfold vdh
  rw [vzw hT h (fun k=>vuw h hc k) allR]
  exact vxp _
 unfold vgd
 rw [key snap (Int.le_refl _),Bool.true_and,List.all_eq_true]
 intro v hv
 by_cases c:(v.2.2.2:Int)>snap
 ·rw [key v.2.2.2 (Int.le_of_lt c),Bool.or_true]
 ·rw [show decide (v.2.2.2>snap)=false from decide_eq_false c];rfl
theorem v79 {l:List Int}{p s:Int}(h:Dr l p):Gives (vev 10000 l p s) (fun y=>0≤y.1∧y.1<10000∧Dr y.2.1 y.2.2.1):=by
 rw [vzd]
 unfold vuz
 refine vaq (fun c=>by cases c) (fun _=>vaq (fun c=>by cases c) (fun _=>(vrs h).bind (fun y2 h2=>(vrs h2.2.2).bind (fun y3 h3=>(vrs h3.2.2).bind (fun y4 h4=>(vrs h4.2.2).bind (fun y5 h5=>vnz (by decide) (vaf ?_)))))))
 have w1:IntKind.wrap .i64 (y2.1*16777216)=y2.1*16777216:=vcz (by omega) (by omega)
 have w2:IntKind.wrap .i64 (y3.1*65536)=y3.1*65536:=vcz (by omega) (by omega)
 have w3:IntKind.wrap .i64 (y4.1*256)=y4.1*256:=vcz (by omega) (by omega)
 have w4:IntKind.wrap .i64 (y2.1*16777216+y3.1*65536)=y2.1*16777216+y3.1*65536:=vcz (by omega) (by omega)
 have w5:IntKind.wrap .i64 (y2.1*16777216+y3.1*65536+y4.1*256)=y2.1*16777216+y3.1*65536+y4.1*256:=vcz (by omega) (by omega)
 have w6:IntKind.wrap .i64 (y2.1*16777216+y3.1*65536+y4.1*256+y5.1)=y2.1*16777216+y3.1*65536+y4.1*256+y5.1:=vcz (by omega) (by omega)
 rw [w1,w2,w3,w4,w5,w6]
 exact⟨Int.tmod_nonneg _ (by omega),Int.tmod_lt_of_pos _ (by decide),h5.2.2⟩
theorem v5p:∀(m i:Nat)(l:List Int)(p s:Int)(acc:List Int)(n:Nat),i+m=12→m<n→acc.length=i∧(∀y∈acc,0≤y∧y<10000)→Dr l p→
  Gives (vae vkd n ((i:Int),l,p,s,acc)) (fun z=>z.2.2.2.2.length=12∧∀y∈z.2.2.2.2,0≤y∧y<10000):=by
 intro m
 induction m with
 |zero=>
  intro i l p s acc n hm hn ha h
  obtain⟨n,rfl⟩:∃q,n=q+1:=⟨n-1,by omega⟩
  apply vcb
  unfold vkd
  exact vaq (fun c=>by have c:=of_decide_eq_true c;dsimp only at c;omega) (fun _=>vaf (vjr ⟨by dsimp only;omega,ha.2⟩))
 |succ m ih=>
  intro i l p s acc n hm hn ha h
  obtain⟨n,rfl⟩:∃q,n=q+1:=⟨n-1,by omega⟩
  apply vcb
  unfold vkd
  have e:IntKind.wrap .i64 ((i:Int)+1)=((i+1:Nat):Int):=va4 (by omega)
  refine vaq (fun _=>(v79 h).bind (fun y hy=>vb7 ?_ (vaf (vu8 ?_)))) (fun c=>by have c:=of_decide_eq_false c;dsimp only at c;omega)
  ·have:=ha.1;show _≤4294967296;simp only [List.length_singleton];omega
  ·simp only [e]
   refine ih (i+1) _ _ _ _ n (by omega) (by omega) ⟨by rw [List.length_append,List.length_singleton,ha.1],fun z hz=>?_⟩ hy.2.2
   rcases List.mem_append.1 hz with hz|hz
   ·exact ha.2 z hz
   ·rw [List.mem_singleton]at hz;rw [hz];exact⟨hy.1,hy.2.1⟩
theorem wej {a0:List Int}(hl:a0.length≤1048576):Gives (vq2 a0) (fun y=>y.length=12∧∀z∈y,0≤z∧z<10000):=by
 rw [v5s]
 unfold v0l
 exact(vuh hl).bind (fun y1 h1=>(vrs h1).bind (fun y2 h2=>(v5p 12 0 _ _ _ [] Fuel rfl (by have:=vbg;omega) ⟨rfl,fun y hy=>by cases hy⟩ h2.2.2).bind (fun z hz=>vaf hz)))
theorem wer {a0:List Int}(hl:a0.length≤1048576):Gives (vq9 a0) (fun y=>y.2.length≤21):=by
 rw [v42]
 unfold v0y
 exact(vuh hl).bind (fun y1 h1=>(vi2 (by decide) (by decide) h1).bind (fun y2 h2=>(vzi h2.2.2).bind (fun y3 h3=>vaf h3.2)))
theorem wfg {a0:List Int}(hl:a0.length≤1048576):Gives (vq8 a0) (fun y=>y.2.1.length≤21∧y.2.2.length≤21):=by
 rw [v3o]
 unfold vzs
 refine(vuh hl).bind (fun y1 h1=>(vi2 (by decide) (by decide) h1).bind (fun y2 h2=>(vzi h2.2.2).bind (fun y3 h3=>(v5g (by decide) (by decide) h3.1).bind (fun y4 h4=>vaq (fun _=>?_) (fun _=>(vzi h4).bind (fun y6 h6=>vaf ⟨h3.2,h6.2⟩))))))
 exact Gives.bind (R:=fun z=>z.length≤21) ⟨vcf y3.2.2.2 y2.1,Nat.le_trans (vkw _ _) h3.2,fun k=>v4k (by have:=h3.2;omega) _ k⟩ (fun z hz=>vaf ⟨h3.2,hz⟩)
theorem wed {a0:List Int}(hl:a0.length≤1048576):Gives (vqt a0) (fun y=>y.2.2.2.length≤21):=by
 rw [v28]
 unfold vym
 exact(vuh hl).bind (fun y1 h1=>(wfp h1).bind (fun y2 h2=>(vi2 (by decide) (by decide) h2.2.2).bind (fun y3 h3=>(vzi h3.2.2).bind (fun y4 h4=>vaf h4.2))))
theorem vgc {x:List tVersion.D}(hl:x.length≤1048576) (k):vlm x x k=k true:=by
 have loop:∀(l:List tVersion.D) (i:Nat) (u2:Bool),x.drop i=l→∃j:Int,∀k,vh7 x x u2 l i k=k (.inr j):=by
  intro l
  induction l with
  |nil=>exact fun i u2 hd=>⟨(i:Int),fun k=>rfl⟩
  |cons y l ih=>
   intro i u2 hd
   have hlt:=vbn hd
   obtain⟨j,hj⟩:=ih (i+1) u2 (vai hd)
   have h1:=(vap hd).1
   refine⟨j,fun k=>?_⟩
   simp only [vh7,h1,show (0:Int)≤(i:Int) by omega,show (i:Int)<(x.length:Int) by omega,and_self,if_true,vbx,Bool.not_true,cond_false,hj,Ty.eqB,Bool.and_self,beq_self_eq_true]
 rw [wfm (by omega)]
 unfold v3q
 obtain⟨j,hj⟩:=loop x 0 false rfl
 simp only [bne_self_eq_false,cond_false,hj,Sum.elim_inr]
theorem vut {L:List tVersion.D}(h:vbi L)(hl:L.length≤1000){snap:Int}{u0:List Int}:∀(m:Nat)(cs:Int)(q:Nat),snap≤cs→0≤cs→cs+m=12→m<q→∃j:Int,∀K,
  vae vig q (u0,false,snap,cs,L,vcf L snap) K=K (.inr (u0,false,snap,j,L,vcf L snap))
 |m,cs,0,_,_,_,h2=>by omega
 |0,cs,q+1,_,_,h1,_=>⟨cs,fun K=>by
   simp only [vae,vig,show ¬cs<12 by omega,decide_false,cond_false,Sum.elim_inr]⟩
 |m+1,cs,q+1,hc,h0,h1,h2=>by
  have hw:IntKind.wrap .i64 (cs+1)=cs+1:=vcz (by omega) (by omega)
  obtain⟨j,hj⟩:=vut h hl (snap:=snap) (u0:=u0) m (cs+1) q (by omega) (by omega) (by omega) (by omega)
  have hT:=(vh0 L h snap).1
  have ht:=vkw L snap
  have hs:=vzw hT h (fun k=>vuw h hc k) allR
  have hall:∀K,vp1 K=K allR:=fun K=>by rw [v41];rfl
  refine⟨j,fun K=>?_⟩
  simp only [vae,vig,show cs<12 by omega,decide_true,cond_true,hall,vn8 (show (vcf L snap).length≤1048576 by omega),vn8 (show L.length≤1048576 by omega),hs,vjs (show (vft L allR cs).length≤1048576 by have:=vd5 L allR cs;omega),Bool.not_true,cond_false,hw,Sum.elim_inl,hj]
end
end Go.VE
/- The plain laws. -/
namespace Go.VE
set_option linter.unusedVariables false
set_option linter.unusedSimpArgs false
set_option maxRecDepth 100000
theorem vwh (x:(Ty.slice (.int .u8)).D)(hx:(Ty.slice (.int .u8)).wf x)(k:Bool→Option Res):vuo x k=k true:=by
 rw [wfd]
 unfold v27
 rw [wcf]
 by_cases hl:(x.length:Int)>1048576
 ·simp only [hl,decide_true,cond_true]
 simp only [hl,decide_false,cond_false]
 obtain⟨l,hL,e1⟩:=wc4 (a0:=x) (by omega)
 obtain⟨p,⟨hp1,hp2⟩,e2⟩:=wej (a0:=x) (by omega)
 obtain⟨q1,hq1,e3⟩:=wer (a0:=x) (by omega)
 obtain⟨q2,hq2,e4⟩:=wfg (a0:=x) (by omega)
 obtain⟨q3,hq3,e5⟩:=wed (a0:=x) (by omega)
 have h1:=hL.2.2
 have ll:l.length≤1048576:=by omega
 have hp0:0≤p.getD 0 0∧p.getD 0 0<10000:=by
  cases p with
  |nil=>simp at hp1
  |cons a p=>exact hp2 a (List.mem_cons_self ..)
 obtain⟨snap,hsn⟩:∃s:Int,s=(p.getD 0 0).tmod 10:=⟨_,rfl⟩
 have hs0:0≤snap:=by rw [hsn];exact Int.tmod_nonneg _ hp0.1
 have hs1:snap<10:=by rw [hsn];exact Int.tmod_lt_of_pos _ (by decide)
 have hsn':(p.getD (0:Int).toNat (Ty.zero (.int .i64))).tmod 10=snap:=hsn.symm
 obtain⟨j,hj⟩:=vut hL.1 (show l.length≤1000 by omega) (snap:=snap) (u0:=x) (12-snap.toNat) snap Fuel (Int.le_refl _) hs0 (by omega) (Nat.lt_of_lt_of_le (by omega) vbg)
 obtain⟨hT,hsub⟩:=vh0 l hL.1 snap
 have htl:=vkw l snap
 have lt:(vcf l snap).length≤1048576:=by omega
 have hok:ve2 (vcf l snap)=true:=vs3 hT (fun y hy=>wa6 hL y (hsub y hy)) (by omega)
 have hwt:=vx1 (l:=vcf l snap) (fun y hy=>wa6 hL y (hsub y hy)) (by omega)
 have hle:decide (((vcf l snap).length:Int)≤(l.length:Int))=true:=decide_eq_true (by omega)
 have ht1:=vkw q1.2 q1.1
 have hsc:=vd5 q3.2.2.2 (q3.1,q3.2.1) q3.2.2.1
 simp only [e1,e2,e3,e4,e5,show (0:Int)<(p.length:Int) by omega,Int.le_refl,and_self,if_true,hsn',vvw ll,hj,Sum.elim_inr,wbv hwt,hok,cond_true,hle,vvw lt,v3c hL.1,vgc lt,v4v lt ll,v4w hL.1,vvw (show q1.2.length≤1048576 by omega),v4k (show q1.2.length≤1048576 by omega),vgc (show (vcf q1.2 q1.1).length≤1048576 by omega),v4v (show q2.2.1.length≤1048576 by omega) (show q2.2.2.length≤1048576 by omega),wcb (show q2.2.1.length≤1048576 by omega) (show q2.2.2.length≤1048576 by omega),beq_self_eq_true,vn8 (show q3.2.2.2.length≤1048576 by omega),vss (show q3.2.2.2.length≤1048576 by omega),vjs (show (vft q3.2.2.2 (q3.1,q3.2.1) q3.2.2.1).length≤1048576 by omega)]
end Go.VE
