/- The plain laws behind FnExactLeave. -/
import Derived.Test.YtbaniaofomgceaaLeaveL
import Derived.Sort.Walk0
/- Plain laws: one of a list that passes a test;what is seen;the oldest. -/
namespace Go.VE
noncomputable section
set_option linter.unusedVariables false
set_option linter.unusedSimpArgs false
set_option maxRecDepth 100000
def zV:tVersion.D:=Ty.zero tVersion
def vdx (u0:List tVersion.D)(key:ByteArray)(snap:Int):List tVersion.D→Int→Nat→Int
 |[],s,_=>s
 |y::l,s,i=>bif vbm y.1 key&&(decide (y.2.2.2≤snap)&&(decide (s<0)||decide (y.2.2.2>(rd zV u0 s).2.2.2)))then vdx u0 key snap l (i:Int) (i+1)else vdx u0 key snap l s (i+1)
def vit (xs:List tVersion.D)(key:ByteArray)(snap:Int):Int:=vdx xs key snap xs (-1) 0
theorem vn3 {u0 u1 u2} {u4}:∀(l:List tVersion.D) (s:Int) (i:Nat),u0.drop i=l→(s<0∨0≤s∧s<(u0.length:Int))→
  ∃j:Int,(∀k,vd9 u0 u1 u2 u4 l s i k=k (vdx u0 u1 u2 l s i,j))∧(vdx u0 u1 u2 l s i<0∨0≤vdx u0 u1 u2 l s i∧vdx u0 u1 u2 l s i<(u0.length:Int))
 |[],s,i,_,hs=>⟨_,fun k=>rfl,hs⟩
 |y::l,s,i,h,hs=>by
  have hlt:=vc6 h
  obtain⟨j1,hj1,b1⟩:=vn3 (u0:=u0) (u1:=u1) (u2:=u2) (u4:=u4) l s (i+1) (vbd h) hs
  obtain⟨j2,hj2,b2⟩:=vn3 (u0:=u0) (u1:=u1) (u2:=u2) (u4:=u4) l (i:Int) (i+1) (vbd h) (.inr (by omega))
  have hz:(Ty.zero tVersion)=zV:=rfl
  simp only [vd9,hj1,hj2,vdx,hz]
  cases vbm y.1 u1
  ·exact⟨j1,fun k=>rfl,b1⟩
  ·cases decide (y.2.2.2≤u2)
   ·exact⟨j1,fun k=>rfl,b1⟩
   ·by_cases c:s<0
    ·simp only [c,decide_true,cond_true,Bool.true_or,Bool.and_self];exact⟨j2,fun k=>rfl,b2⟩
    ·simp only [c,decide_false,cond_true,cond_false,Bool.false_or,Bool.true_and]
     simp only [if_pos (show 0≤s∧s<(u0.length:Int) by omega)]
     cases decide (y.2.2.2>(rd zV u0 s).2.2.2)
     ·exact⟨j1,fun k=>rfl,b1⟩
     ·exact⟨j2,fun k=>rfl,b2⟩
theorem wh5 {xs:List tVersion.D}(hl:xs.length≤1048576) (key) (snap) (k):vr0 xs key snap k=k (vit xs key snap):=by
 rw [wk0 (by omega)]
 unfold v79 vit
 obtain⟨j,hj,_⟩:=vn3 (u0:=xs) (u1:=key) (u2:=snap) (u4:=xs) xs (-1) 0 rfl (.inl (by omega))
 rw [hj]
theorem vnz {u0 u1 u2}  : ∀(l:List tVersion.D) (s:Int) (i:Nat),u0.drop i=l→(s<0∨0≤s∧s<(u0.length:Int))→
  ∃j:Int,(∀k,vea u0 u1 u2  l s i k=k (vdx u0 u1 u2 l s i,j))∧(vdx u0 u1 u2 l s i<0∨0≤vdx u0 u1 u2 l s i∧vdx u0 u1 u2 l s i<(u0.length:Int))
 |[],s,i,_,hs=>⟨_,fun k=>rfl,hs⟩
 |y::l,s,i,h,hs=>by
  have hlt:=vc6 h
  obtain⟨j1,hj1,b1⟩:=vnz (u0:=u0) (u1:=u1) (u2:=u2)  l s (i+1) (vbd h) hs
  obtain⟨j2,hj2,b2⟩:=vnz (u0:=u0) (u1:=u1) (u2:=u2)  l (i:Int) (i+1) (vbd h) (.inr (by omega))
  have hz:(Ty.zero tVersion)=zV:=rfl
  simp only [vea,hj1,hj2,vdx,hz]
  cases vbm y.1 u1
  ·exact⟨j1,fun k=>rfl,b1⟩
  ·cases decide (y.2.2.2≤u2)
   ·exact⟨j1,fun k=>rfl,b1⟩
   ·by_cases c:s<0
    ·simp only [c,decide_true,cond_true,Bool.true_or,Bool.and_self];exact⟨j2,fun k=>rfl,b2⟩
    ·simp only [c,decide_false,cond_true,cond_false,Bool.false_or,Bool.true_and]
     simp only [if_pos (show 0≤s∧s<(u0.length:Int) by omega)]
     cases decide (y.2.2.2>(rd zV u0 s).2.2.2)
     ·exact⟨j1,fun k=>rfl,b1⟩
     ·exact⟨j2,fun k=>rfl,b2⟩
theorem wix {xs:List tVersion.D}(hl:xs.length≤1048576) (key) (snap) (k):vsp xs key snap k=k (vit xs key snap):=by
 rw [wj6 (by omega)]
 unfold wbv vit
 obtain⟨j,hj,_⟩:=vnz (u0:=xs) (u1:=key) (u2:=snap)  xs (-1) 0 rfl (.inl (by omega))
 rw [hj]
def vdu (n:Int)(l:List tTxn.D):Int:=l.foldl (fun s y=>if y.2.2.1<s then y.2.2.1 else s) n
theorem vvr {u1}:∀(l:List tTxn.D) (s:Int) (i:Nat),∃j:Int,∀k,vl3 u1 l s i k=k (vdu s l,j)
 |[],s,i=>⟨_,fun k=>rfl⟩
 |y::l,s,i=>vvr l _ (i+1)
theorem vn4 {u0}:∀(l:List tTxn.D) (s:Int) (i:Nat),∃j:Int,∀k,vhj u0 l s i k=k (vdu s l,j)
 |[],s,i=>⟨_,fun k=>rfl⟩
 |y::l,s,i=>by
  simp only [vhj,vdu,List.foldl_cons]
  by_cases c:y.2.2.1<s
  ·simp only [c,decide_true,cond_true,if_true];exact vn4 l _ (i+1)
  ·simp only [c,decide_false,cond_false,if_false];exact vn4 l _ (i+1)
theorem wie {b:tBase.D}{l:List tTxn.D}(hl:l.length≤1048576) (k):vuc b l k=k (vdu b.2.2.2.1 l):=by
 rw [wke (by omega)]
 obtain⟨j,hj⟩:=vvr (u1:=l) l b.2.2.2.1 0
 unfold v7m
 rw [hj]
theorem wje {b:tBase.D}{l:List tTxn.D}(hl:l.length≤1048576) (k):vp8 b l k=k (vdu b.2.2.2.1 l):=by
 rw [wk4 (by omega)]
 obtain⟨j,hj⟩:=vn4 (u0:=l) l b.2.2.2.1 0
 unfold v9y
 rw [hj]
end
end Go.VE
/- Plain laws: where a name or an Id stands;a transaction's text. -/
namespace Go.VE
noncomputable section
set_option linter.unusedVariables false
set_option linter.unusedSimpArgs false
set_option maxRecDepth 100000
def atF (p:tTxn.D→Bool):List tTxn.D→Nat→Int
 |[],_=>-1
 |y::l,i=>bif p y then(i:Int)else atF p l (i+1)
theorem wjb (x:tTxn.D)(c:Int) (k):vty x c k=k ((x.1==c),c):=by rw [v94];rfl
theorem vu3 {u1 u3 u4 u5 u6 u7 u8}{c:Int}:∀(l:List tTxn.D) (i:Nat),
  ((∃a:Nat,∀k,vf8 c u1 u3 u4 u5 u6 u7 u8 l i k=k (.inl ((a:Int),(a:Int))))∧(∃a:Nat,atF (fun x=>(x.1==c)) l i=(a:Int)∧∀k,vf8 c u1 u3 u4 u5 u6 u7 u8 l i k=k (.inl ((a:Int),(a:Int)))))∨
  ((∃b:Int,∀k,vf8 c u1 u3 u4 u5 u6 u7 u8 l i k=k (.inr b))∧atF (fun x=>(x.1==c)) l i = -1)
 |[],i=>.inr ⟨⟨_,fun k=>rfl⟩,rfl⟩
 |y::l,i=>by
  have ih:=vu3 (u1:=u1) (u3:=u3) (u4:=u4) (u5:=u5) (u6:=u6) (u7:=u7) (u8:=u8) (c:=c) l (i+1)
  simp only [vf8,atF]
  cases (y.1==c)
  ·exact ih
  ·exact .inl ⟨⟨i,fun k=>rfl⟩,i,rfl,fun k=>rfl⟩
theorem v9u (t:tEngine.D)(c:Int)(hl:(t.2).length≤1048576) (k):vu2 t c k=k (atF (fun x=>(x.1==c)) (t.2) 0):=by
 rw [wkq (by omega)]
 unfold wa4
 rcases vu3  (c:=c) (t.2) 0 with⟨_,a,ha,h⟩|⟨⟨b,h⟩,ha⟩<;>rw [h,ha]<;>rfl
theorem vtm {u0 u1}{c:Int}:∀(l:List tTxn.D) (i:Nat),
  (∃a:Nat,atF (fun x=>(x.1==c)) l i=(a:Int)∧∀k,vhs u0 u1 l c i k=k (.inl ((a:Int),(a:Int),c)))∨
  ((∃b:Int,∀k,vhs u0 u1 l c i k=k (.inr (b,c)))∧atF (fun x=>(x.1==c)) l i = -1)
 |[],i=>.inr ⟨⟨_,fun k=>rfl⟩,rfl⟩
 |y::l,i=>by
  have ih:=vtm (u0:=u0) (u1:=u1) (c:=c) l (i+1)
  simp only [vhs,atF,wjb]
  cases (y.1==c)
  ·exact ih
  ·exact .inl ⟨i,rfl,fun k=>rfl⟩
theorem v82 (t:tEngine.D)(c:Int)(hl:(t.2).length≤1048576) (k):vze t c k=k (atF (fun x=>(x.1==c)) (t.2) 0):=by
 rw [v92]
 unfold v4j
 rw [wj1 (by omega)]
 unfold v8f
 rcases vtm (u0:=(t.2)) (u1:=0) (c:=c) (t.2) 0 with⟨a,ha,h⟩|⟨⟨b,h⟩,ha⟩<;>rw [h,ha]<;>rfl
end
end Go.VE
/- Plain laws of the draws: each gives,whatever the bytes. -/
namespace Go.VE
noncomputable section
set_option linter.unusedVariables false
set_option linter.unusedSimpArgs false
set_option maxRecDepth 100000
def Gives {α:Type}(F:(α→Option Res)→Option Res)(Q:α→Prop):Prop:=∃v,Q v∧∀k,F k=k v
theorem vi8 {α:Type}{v:α}{Q:α→Prop}(h:Q v):Gives (fun k=>k v) Q:=⟨v,h,fun _=>rfl⟩
theorem Gives.bind {α β:Type}{F:(β→Option Res)→Option Res}{R:β→Prop}(hF:Gives F R){H:β→(α→Option Res)→Option Res}{Q:α→Prop}(hH:∀v,R v→Gives (H v) Q):Gives (fun k=>F fun v=>H v k) Q:=by
 obtain⟨v,h1,h2⟩:=hF
 obtain⟨y,h3,h4⟩:=hH v h1
 exact⟨y,h3,fun k=>(h2 _).trans (h4 k)⟩
theorem vpy {α:Type}{c:Bool}{F G:(α→Option Res)→Option Res}{Q:α→Prop}(hF:c=true→Gives F Q)(hG:c=false→Gives G Q):Gives (fun k=>bif c then F k else G k) Q:=by
 cases c
 ·exact hG rfl
 ·exact hF rfl
theorem vx5 {α:Type}{c:Prop} [Decidable c]{F:(α→Option Res)→Option Res}{Q:α→Prop}(hc:c)(hF:Gives F Q):Gives (fun k=>if c then F k else none) Q:=by
 simp only [hc,if_true];exact hF
theorem Gives.mono {α:Type}{F:(α→Option Res)→Option Res}{Q R:α→Prop}(h:Gives F Q)(hq:∀v,Q v→R v):Gives F R:=by
 obtain⟨v,h1,h2⟩:=h
 exact⟨v,hq v h1,h2⟩
theorem vu1 {β γ:Type}{b:β→(β⊕γ→Option Res)→Option Res}{x:β}{n:Nat}{Q:γ→Prop}(h:Gives (b x) (fun r=>(∀y,r = .inl y→Gives (vac b n y) Q)∧∀z,r = .inr z→Q z)):Gives (vac b (n+1) x) Q:=by
 obtain⟨v,h1,h2⟩:=h
 cases v with
 |inl y=>
  obtain⟨w,h3,h4⟩:=h1.1 y rfl
  exact⟨w,h3,fun k=>by rw [vac,h2];exact h4 k⟩
 |inr z=>exact⟨z,h1.2 z rfl,fun k=>by rw [vac,h2];rfl⟩
theorem wkp {β γ:Type}{Q:γ→Prop}{G:β→Prop}{y:β}(h:G y):(∀x,(Sum.inl y:β⊕γ) = .inl x→G x)∧∀z,(Sum.inl y:β⊕γ) = .inr z→Q z:=⟨fun _ e=>by cases e;exact h,fun _ e=>(nomatch e)⟩
theorem wgt {β γ:Type}{Q:γ→Prop}{G:β→Prop}{z:γ}(h:Q z):(∀x,(Sum.inr z:β⊕γ) = .inl x→G x)∧∀w,(Sum.inr z:β⊕γ) = .inr w→Q w:=⟨fun _ e=>(nomatch e),fun _ e=>by cases e;exact h⟩
end
end Go.VE
/- Plain laws of the marks: what is marked in place is held. -/
namespace Go.VE
noncomputable section
set_option linter.unusedVariables false
set_option linter.unusedSimpArgs false
set_option maxRecDepth 100000
theorem vlp (n:Int):(vl8 [n]).size=1:=rfl
theorem vxc:∀(m:Nat) (n:Int) (s:ByteArray) (q:Nat),n≤m→m<q→s.size+m≤100000000→Gives (vac vlu q (n,s)) (fun z=>z.2.size≤s.size+m):=by
 intro m
 induction m with
 |zero=>
  intro n s q hn hq hs
  obtain⟨q,rfl⟩:∃r,q=r+1:=⟨q-1,by omega⟩
  apply vu1
  unfold vlu
  exact vpy (fun c=>by have c:=of_decide_eq_true c;dsimp only at c;omega) (fun _=>vi8 (wgt (by dsimp only;omega)))
 |succ m ih=>
  intro n s q hn hq hs
  obtain⟨q,rfl⟩:∃r,q=r+1:=⟨q-1,by omega⟩
  apply vu1
  unfold vlu
  refine vpy (fun c=>vx5 ?_ (vi8 (wkp ?_))) (fun _=>vi8 (wgt (by dsimp only;omega)))
  ·rw [vlp];dsimp only;omega
  ·have c:=of_decide_eq_true c
   dsimp only at c
   have e:n.tdiv 10=n / 10:=Int.tdiv_eq_ediv_of_nonneg (by omega)
   dsimp only
   rw [e,vbq (by omega) (by omega)]
   refine(ih (n / 10) _ q (by omega) (by omega) (by rw [ByteArray.size_append,vlp];omega)).mono (fun z hz=>?_)
   rw [ByteArray.size_append,vlp]at hz
   omega
theorem v54 {n:Int}(h:n≤10000000):Gives (vb2 n) (fun _=>True):=by
 rw [v7w]
 unfold v47
 refine vpy (fun _=>vi8 trivial) (fun _=>(vxc 10000000 n _ Fuel (by omega) (by have:=vd0;omega) (by decide)).bind (fun z hz=>vx5 ?_ (vi8 trivial)))
 have:(⟨#[109]⟩:ByteArray).size=1:=rfl
 have:(⟨#[]⟩:ByteArray).size=0:=rfl
 omega
open Classical in
def vja (n:Int):ByteArray:=if h:∃v,∀k,vb2 n k=k v then Classical.choose h else⟨#[]⟩
theorem vbi {n:Int}(h:n≤10000000) (k):vb2 n k=k (vja n):=by
 obtain⟨v,_,hv⟩:=v54 h
 have h1:∃v,∀k,vb2 n k=k v:=⟨v,hv⟩
 unfold vja
 rw [dif_pos h1]
 exact Classical.choose_spec h1 k
theorem vws {α:Type}(pre:List α)(y v:α)(l:List α):(pre++y::l).set pre.length v=pre++v::l:=by simp
theorem vpf {α:Type}(pre:List α)(y d:α)(l:List α):(pre++y::l).getD pre.length d=y:=by simp [List.getD]
def vns:Int→List tRange.D→List tRange.D
 |_,[]=>[]
 |c,y::l=>(vja c,vja (c+1))::vns (c+2) l
theorem vi4:∀(l pre:List tRange.D) (c:Int) (q:Nat),0≤c→c+2*l.length≤9000000→pre.length+l.length≤1048576→l.length<q→
  ∃j:Int,∀k,vac vlm q (c,(pre.length:Int),pre++l) k=k (c+2*l.length,j,pre++vns c l)
 |[],pre,c,q,h0,hc,hl,hq=>by
  obtain⟨q,rfl⟩:∃r,q=r+1:=⟨q-1,by omega⟩
  refine⟨pre.length,fun k=>?_⟩
  simp only [vac,vlm,List.append_nil,Int.lt_irrefl,decide_false,cond_false,Sum.elim_inr,List.length_nil,vns]
  simp
 |y::l,pre,c,q,h0,hc,hl,hq=>by
  obtain⟨q,rfl⟩:∃r,q=r+1:=⟨q-1,by omega⟩
  simp only [List.length_cons]at hc hl hq
  obtain⟨j,hj⟩:=vi4 l (pre++[(vja c,vja (c+1))]) (c+2) q (by omega) (by omega) (by rw [List.length_append,List.length_singleton];omega) (by omega)
  refine⟨j,fun k=>?_⟩
  have hlt:(pre.length:Int)<((pre++y::l).length:Int):=by rw [List.length_append,List.length_cons];omega
  have hlt2:∀v:tRange.D,(pre.length:Int)<((pre++v::l).length:Int):=fun v=>by rw [List.length_append,List.length_cons];omega
  have w1:IntKind.wrap .i64 (c+1)=c+1:=vbq (by omega) (by omega)
  have w2:IntKind.wrap .i64 (c+1+1)=c+2:=by rw [vbq (by omega) (by omega)];omega
  have w3:IntKind.wrap .i64 ((pre.length:Int)+1)=((pre.length+1:Nat):Int):=vbp (by omega)
  have hp:(0:Int)≤(pre.length:Int):=Int.natCast_nonneg _
  have hj':=hj k
  rw [List.length_append,List.length_singleton,List.append_assoc,List.singleton_append,List.append_assoc,List.singleton_append]at hj'
  simp only [vac,vlm,hlt,decide_true,cond_true,vbi (show c≤10000000 by omega),w1,vbi (show c+1≤10000000 by omega),Int.toNat_natCast,vws,vpf,hlt2,hp,and_self,if_true,w2,w3,Sum.elim_inl]
  rw [hj']
  simp only [vns,List.length_cons]
  congr 2
  push_cast
  omega
def vnv:Int→List tWrite.D→List tWrite.D
 |_,[]=>[]
 |c,y::l=>(vja c,(vja (c+1),((c+2).tmod 3==0)))::vnv (c+3) l
theorem vi2:∀(l pre:List tWrite.D) (c:Int) (q:Nat),0≤c→c+3*l.length≤9000000→pre.length+l.length≤1048576→l.length<q→
  ∃j:Int,∀k,vac vl0 q (c,(pre.length:Int),pre++l) k=k (c+3*l.length,j,pre++vnv c l)
 |[],pre,c,q,h0,hc,hl,hq=>by
  obtain⟨q,rfl⟩:∃r,q=r+1:=⟨q-1,by omega⟩
  refine⟨pre.length,fun k=>?_⟩
  simp only [vac,vl0,List.append_nil,Int.lt_irrefl,decide_false,cond_false,Sum.elim_inr,List.length_nil,vnv]
  simp
 |y::l,pre,c,q,h0,hc,hl,hq=>by
  obtain⟨q,rfl⟩:∃r,q=r+1:=⟨q-1,by omega⟩
  simp only [List.length_cons]at hc hl hq
  obtain⟨j,hj⟩:=vi2 l (pre++[(vja c,(vja (c+1),((c+2).tmod 3==0)))]) (c+3) q (by omega) (by omega) (by rw [List.length_append,List.length_singleton];omega) (by omega)
  refine⟨j,fun k=>?_⟩
  have hlt:(pre.length:Int)<((pre++y::l).length:Int):=by rw [List.length_append,List.length_cons];omega
  have hlt2:∀v:tWrite.D,(pre.length:Int)<((pre++v::l).length:Int):=fun v=>by rw [List.length_append,List.length_cons];omega
  have w1:IntKind.wrap .i64 (c+1)=c+1:=vbq (by omega) (by omega)
  have w2:IntKind.wrap .i64 (c+1+1)=c+2:=by rw [vbq (by omega) (by omega)];omega
  have w4:IntKind.wrap .i64 (c+2+1)=c+3:=by rw [vbq (by omega) (by omega)];omega
  have w3:IntKind.wrap .i64 ((pre.length:Int)+1)=((pre.length+1:Nat):Int):=vbp (by omega)
  have hp:(0:Int)≤(pre.length:Int):=Int.natCast_nonneg _
  have hj':=hj k
  rw [List.length_append,List.length_singleton,List.append_assoc,List.singleton_append,List.append_assoc,List.singleton_append]at hj'
  simp only [vac,vl0,hlt,decide_true,cond_true,vbi (show c≤10000000 by omega),w1,vbi (show c+1≤10000000 by omega),Int.toNat_natCast,vws,vpf,hlt2,hp,and_self,if_true,w2,w3,w4,Sum.elim_inl]
  rw [hj']
  simp only [vnv,List.length_cons]
  congr 2
  push_cast
  omega
theorem vj0 {u0 u2}:∀(l:List tRange.D) (c:Int) (i:Nat),0≤c→c+2*l.length≤9000000→∃j:Int,∀k,vhv u0 u2 (vns c l) c i k=k (.inr (c+2*l.length,j))
 |[],c,i,_,_=>⟨_,fun k=>by simp only [vns,vhv,List.length_nil];simp;rfl⟩
 |y::l,c,i,h0,hc=>by
  simp only [List.length_cons]at hc
  obtain⟨j,hj⟩:=vj0 (u0:=u0) (u2:=u2) l (c+2) (i+1) (by omega) (by omega)
  have w1:IntKind.wrap .i64 (c+1)=c+1:=vbq (by omega) (by omega)
  have w2:IntKind.wrap .i64 (c+1+1)=c+2:=by rw [vbq (by omega) (by omega)];omega
  refine⟨j,fun k=>?_⟩
  simp only [vns,vhv,vbi (show c≤10000000 by omega),w1,vbi (show c+1≤10000000 by omega),vcd,Bool.not_true,cond_false,w2,hj,List.length_cons]
  congr 3
  push_cast
  omega
theorem vjo {u0 u2}:∀(l:List tWrite.D) (c:Int) (i:Nat),0≤c→c+3*l.length≤9000000→∃j:Int,∀k,vhh u0 u2 (vnv c l) c i k=k (.inr (c+3*l.length,j))
 |[],c,i,_,_=>⟨_,fun k=>by simp only [vnv,vhh,List.length_nil];simp;rfl⟩
 |y::l,c,i,h0,hc=>by
  simp only [List.length_cons]at hc
  obtain⟨j,hj⟩:=vjo (u0:=u0) (u2:=u2) l (c+3) (i+1) (by omega) (by omega)
  have w1:IntKind.wrap .i64 (c+1)=c+1:=vbq (by omega) (by omega)
  have w2:IntKind.wrap .i64 (c+1+1)=c+2:=by rw [vbq (by omega) (by omega)];omega
  have w4:IntKind.wrap .i64 (c+2+1)=c+3:=by rw [vbq (by omega) (by omega)];omega
  refine⟨j,fun k=>?_⟩
  simp only [vnv,vhh,vbi (show c≤10000000 by omega),w1,vbi (show c+1≤10000000 by omega),vcd,Bool.not_true,cond_false,w2,w4,hj,List.length_cons,beq_self_eq_true]
  congr 3
  push_cast
  omega
end
end Go.VE
/- Plain laws: a range is read. -/
namespace Go.VE
noncomputable section
set_option linter.unusedVariables false
set_option linter.unusedSimpArgs false
set_option maxRecDepth 100000
theorem v8b {t:tTxn.D}(hr:t.2.2.2.2.1.length≤1048576)(hw:t.2.2.2.2.2.1.length≤1048576) (k):voi t k=k (t.1,t.2.1,t.2.2.1,t.2.2.2.1,t.2.2.2.2.2.2.1,t.2.2.2.2.2.2.2,t.2.2.2.2.1,t.2.2.2.2.2.1):=by
 rw [v9e]
 unfold v4v
 rw [if_pos (by simp only [List.length_nil,VE.maxLen];omega),if_pos (by simp only [List.length_nil,VE.maxLen];omega)]
 rfl
theorem wi0 {t:tTxn.D}(hr:t.2.2.2.2.1.length≤1048576)(hw:t.2.2.2.2.2.1.length≤1048576) (k):vtl t k=k (t.1,t.2.1,t.2.2.1,t.2.2.2.1,t.2.2.2.2.2.2.1,t.2.2.2.2.2.2.2,t.2.2.2.2.1,t.2.2.2.2.2.1):=by
 rw [wbc]
 unfold v44
 rw [if_pos (by simp only [VE.maxLen];omega),if_pos (by simp only [VE.maxLen];omega)]
end
end Go.VE
/- Plain laws: a transaction's marks. -/
namespace Go.VE
noncomputable section
set_option linter.unusedVariables false
set_option linter.unusedSimpArgs false
set_option maxRecDepth 100000
theorem vo1:∀(c:Int) (l:List tRange.D),(vns c l).length=l.length
 |_,[]=>rfl
 |c,y::l=>by simp [vns,vo1 (c+2) l]
theorem vot:∀(c:Int) (l:List tWrite.D),(vnv c l).length=l.length
 |_,[]=>rfl
 |c,y::l=>by simp [vnv,vot (c+3) l]
end
end Go.VE
/- Plain laws: keys in order;what a scan sees. -/
namespace Go.VE
noncomputable section
set_option linter.unusedVariables false
set_option linter.unusedSimpArgs false
set_option maxRecDepth 100000
def ddT (p:ByteArray):List ByteArray→List ByteArray
 |[]=>[]
 |y::l=>bif vbm y p then ddT y l else y::ddT y l
def dd:List ByteArray→List ByteArray
 |[]=>[]
 |a::l=>a::ddT a l
end
end Go.VE
/- Plain laws: marks of lists of transactions,of bases and engines that own all their slices. -/
namespace Go.VE
noncomputable section
set_option linter.unusedVariables false
set_option linter.unusedSimpArgs false
set_option maxRecDepth 100000
theorem vo7 {l:List tRange.D}(hl:l.length≤1048576){c:Int}(h0:0≤c)(hc:c+2*l.length≤9000000) (k):vz2 c l k=k (c+2*l.length,vns c l):=by
 rw [wbl]
 unfold v5o
 obtain⟨j,hj⟩:=vi4 l [] c Fuel h0 hc (by simpa using hl) (by have:=vd0;omega)
 simp only [List.length_nil,List.nil_append]at hj
 rw [show ((0:Int))=((0:Nat):Int)from rfl,hj]
theorem vo4 {l:List tWrite.D}(hl:l.length≤1048576){c:Int}(h0:0≤c)(hc:c+3*l.length≤9000000) (k):vyb c l k=k (c+3*l.length,vnv c l):=by
 rw [v8t]
 unfold v30
 obtain⟨j,hj⟩:=vi2 l [] c Fuel h0 hc (by simpa using hl) (by have:=vd0;omega)
 simp only [List.length_nil,List.nil_append]at hj
 rw [show ((0:Int))=((0:Nat):Int)from rfl,hj]
def vnp (t:tTxn.D):Int:=6+2*(t.2.2.2.2.1.length:Int)+3*(t.2.2.2.2.2.1.length:Int)
def cntT:List tTxn.D→Int
 |[]=>0
 |y::l=>vnp y+cntT l
def v3m (c:Int)(t:tTxn.D):tTxn.D:=
 (c,(c+1,(c+2,(c+3,(vns (c+4) t.2.2.2.2.1,(vnv (c+4+2*(t.2.2.2.2.1.length:Int)) t.2.2.2.2.2.1,
  ((c+4+2*(t.2.2.2.2.1.length:Int)+3*(t.2.2.2.2.2.1.length:Int)).tmod 3==0,vja (c+4+2*(t.2.2.2.2.1.length:Int)+3*(t.2.2.2.2.2.1.length:Int)+1))))))))
def vlw:Int→List tTxn.D→List tTxn.D
 |_,[]=>[]
 |c,y::l=>v3m c y::vlw (c+vnp y) l
theorem vpu (t:tTxn.D):6≤vnp t:=by unfold vnp;omega
theorem vc2:∀l:List tTxn.D,0≤cntT l
 |[]=>Int.le_refl _
 |y::l=>by have:=vpu y;have:=vc2 l;simp only [cntT];omega
theorem vox:∀(c:Int) (l:List tTxn.D),(vlw c l).length=l.length
 |_,[]=>rfl
 |c,y::l=>by simp [vlw,vox (c+vnp y) l]
theorem wbk:∀(l:List tTxn.D),cntT l≤6*(l.length+wtL tTxn l:Nat)
 |[]=>by simp [cntT,wtL]
 |y::l=>by
  have h:=wbk l
  have hw:=v8o y
  have h1:(Ty.slice tRange).wt y.2.2.2.2.1=y.2.2.2.2.1.length+wtL tRange y.2.2.2.2.1:=Ty.wt_slice _ _
  have h2:(Ty.slice tWrite).wt y.2.2.2.2.2.1=y.2.2.2.2.2.1.length+wtL tWrite y.2.2.2.2.2.1:=Ty.wt_slice _ _
  simp only [cntT,vnp,List.length_cons,wtL]
  push_cast at h ⊢
  omega
theorem vnb:∀(l pre:List tTxn.D) (c:Int) (q:Nat),(∀y∈l,y.2.2.2.2.1.length≤1048576∧y.2.2.2.2.2.1.length≤1048576)→0≤c→c+cntT l≤9000000→pre.length+l.length≤1048576→l.length<q→
  ∃j:Int,∀k,vac vj6 q (c,(pre.length:Int),pre++l) k=k (c+cntT l,j,pre++vlw c l)
 |[],pre,c,q,hw,h0,hc,hl,hq=>by
  obtain⟨q,rfl⟩:∃r,q=r+1:=⟨q-1,by omega⟩
  refine⟨pre.length,fun k=>?_⟩
  simp only [vac,vj6,List.append_nil,Int.lt_irrefl,decide_false,cond_false,Sum.elim_inr,vlw,cntT]
  simp
 |y::l,pre,c,q,hw,h0,hc,hl,hq=>by
  obtain⟨q,rfl⟩:∃r,q=r+1:=⟨q-1,by omega⟩
  simp only [List.length_cons]at hl hq
  obtain⟨hy1,hy2⟩:=hw y (by simp)
  have hp1:=vc2 l
  simp only [cntT]at hc
  obtain⟨j,hj⟩:=vnb l (pre++[v3m c y]) (c+vnp y) q (fun z hz=>hw z (by simp [hz])) (by have:=vpu y;omega) (by omega) (by rw [List.length_append,List.length_singleton];omega) (by omega)
  refine⟨j,fun k=>?_⟩
  have hlt:∀v:tTxn.D,(pre.length:Int)<((pre++v::l).length:Int):=fun v=>by rw [List.length_append,List.length_cons];omega
  have hcy:vnp y=6+2*(y.2.2.2.2.1.length:Int)+3*(y.2.2.2.2.2.1.length:Int):=rfl
  have w1:IntKind.wrap .i64 (c+1)=c+1:=vbq (by omega) (by omega)
  have w2:IntKind.wrap .i64 (c+1+1)=c+2:=by rw [vbq (by omega) (by omega)];omega
  have w3:IntKind.wrap .i64 (c+2+1)=c+3:=by rw [vbq (by omega) (by omega)];omega
  have w4:IntKind.wrap .i64 (c+3+1)=c+4:=by rw [vbq (by omega) (by omega)];omega
  have w5:IntKind.wrap .i64 (c+4+2*(y.2.2.2.2.1.length:Int)+3*(y.2.2.2.2.2.1.length:Int)+1)=c+4+2*(y.2.2.2.2.1.length:Int)+3*(y.2.2.2.2.2.1.length:Int)+1:=vbq (by omega) (by omega)
  have w6:IntKind.wrap .i64 (c+4+2*(y.2.2.2.2.1.length:Int)+3*(y.2.2.2.2.2.1.length:Int)+1+1)=c+vnp y:=by rw [vbq (by omega) (by omega)];omega
  have w7:IntKind.wrap .i64 ((pre.length:Int)+1)=((pre.length+1:Nat):Int):=vbp (by omega)
  have hp:(0:Int)≤(pre.length:Int):=Int.natCast_nonneg _
  have hj':=hj k
  rw [List.length_append,List.length_singleton,List.append_assoc,List.singleton_append,List.append_assoc,List.singleton_append]at hj'
  simp only [vac,vj6,hlt,decide_true,cond_true,hp,and_self,if_true,Int.toNat_natCast,vws,vpf,vdk,vde,vdi,vdl,
   vdo,vdh,vdg,w1,w2,w3,w4,w7,
   vo7 hy1 (show 0≤c+4 by omega) (show c+4+2*(y.2.2.2.2.1.length:Int)≤9000000 by omega),
   vo4 hy2 (show 0≤c+4+2*(y.2.2.2.2.1.length:Int) by omega) (show c+4+2*(y.2.2.2.2.1.length:Int)+3*(y.2.2.2.2.2.1.length:Int)≤9000000 by omega),w5,
   vbi (show c+4+2*(y.2.2.2.2.1.length:Int)+3*(y.2.2.2.2.2.1.length:Int)+1≤10000000 by omega),w6,Sum.elim_inl]
  refine Eq.trans (b:=vac vj6 q (c+vnp y,((pre.length+1:Nat):Int),pre++v3m c y::l) k) rfl ?_
  rw [hj']
  simp only [vlw,cntT]
  congr 2
  omega
theorem vge {l:List tTxn.D}(hw:∀y∈l,y.2.2.2.2.1.length≤1048576∧y.2.2.2.2.2.1.length≤1048576)(hl:l.length≤1048576){c:Int}(h0:0≤c)(hc:c+cntT l≤9000000) (k) :
  vsl c l k=k (c+cntT l,vlw c l):=by
 rw [wak]
 unfold v5p
 obtain⟨j,hj⟩:=vnb l [] c Fuel hw h0 hc (by simpa using hl) (by have:=vd0;omega)
 simp only [List.length_nil,List.nil_append]at hj
 rw [show ((0:Int))=((0:Nat):Int)from rfl,hj]
end
end Go.VE
/- Plain laws: what is marked in versions,transactions,bases and engines is held. -/
namespace Go.VE
noncomputable section
set_option linter.unusedVariables false
set_option linter.unusedSimpArgs false
set_option maxRecDepth 100000
def vn9:Int→List tVersion.D→List tVersion.D
 |_,[]=>[]
 |c,y::l=>(vja c,(vja (c+1),((c+2).tmod 3==0,c+3)))::vn9 (c+4) l
theorem voq:∀(c:Int) (l:List tVersion.D),(vn9 c l).length=l.length
 |_,[]=>rfl
 |c,y::l=>by simp [vn9,voq (c+4) l]
theorem vef:∀(l pre:List tVersion.D) (c:Int) (q:Nat),0≤c→c+4*l.length≤9000000→pre.length+l.length≤1048576→l.length<q→
  ∃j:Int,∀k,vac vih q (c,(pre.length:Int),pre++l) k=k (c+4*l.length,j,pre++vn9 c l)
 |[],pre,c,q,h0,hc,hl,hq=>by
  obtain⟨q,rfl⟩:∃r,q=r+1:=⟨q-1,by omega⟩
  refine⟨pre.length,fun k=>?_⟩
  simp only [vac,vih,List.append_nil,Int.lt_irrefl,decide_false,cond_false,Sum.elim_inr,List.length_nil,vn9]
  simp
 |y::l,pre,c,q,h0,hc,hl,hq=>by
  obtain⟨q,rfl⟩:∃r,q=r+1:=⟨q-1,by omega⟩
  simp only [List.length_cons]at hc hl hq
  obtain⟨j,hj⟩:=vef l (pre++[(vja c,(vja (c+1),((c+2).tmod 3==0,c+3)))]) (c+4) q (by omega) (by omega) (by rw [List.length_append,List.length_singleton];omega) (by omega)
  refine⟨j,fun k=>?_⟩
  have hlt:∀v:tVersion.D,(pre.length:Int)<((pre++v::l).length:Int):=fun v=>by rw [List.length_append,List.length_cons];omega
  have w1:IntKind.wrap .i64 (c+1)=c+1:=vbq (by omega) (by omega)
  have w2:IntKind.wrap .i64 (c+1+1)=c+2:=by rw [vbq (by omega) (by omega)];omega
  have w3:IntKind.wrap .i64 (c+2+1)=c+3:=by rw [vbq (by omega) (by omega)];omega
  have w4:IntKind.wrap .i64 (c+3+1)=c+4:=by rw [vbq (by omega) (by omega)];omega
  have w5:IntKind.wrap .i64 ((pre.length:Int)+1)=((pre.length+1:Nat):Int):=vbp (by omega)
  have hp:(0:Int)≤(pre.length:Int):=Int.natCast_nonneg _
  have hj':=hj k
  rw [List.length_append,List.length_singleton,List.append_assoc,List.singleton_append,List.append_assoc,List.singleton_append]at hj'
  simp only [vac,vih,hlt,decide_true,cond_true,vbi (show c≤10000000 by omega),w1,vbi (show c+1≤10000000 by omega),Int.toNat_natCast,vws,vpf,hp,and_self,if_true,w2,w3,w4,w5,Sum.elim_inl]
  refine Eq.trans (b:=vac vih q (c+4,((pre.length+1:Nat):Int),pre++(vja c,(vja (c+1),((c+2).tmod 3==0,c+3)))::l) k) rfl ?_
  rw [hj']
  simp only [vn9,List.length_cons]
  congr 2
  push_cast
  omega
theorem vnf {l:List tVersion.D}(hl:l.length≤1048576){c:Int}(h0:0≤c)(hc:c+4*l.length≤9000000) (k):vzg c l k=k (c+4*l.length,vn9 c l):=by
 rw [wav]
 unfold v4b
 obtain⟨j,hj⟩:=vef l [] c Fuel h0 hc (by simpa using hl) (by have:=vd0;omega)
 simp only [List.length_nil,List.nil_append]at hj
 rw [show ((0:Int))=((0:Nat):Int)from rfl,hj]
theorem vgw {u0 u2}:∀(l:List tVersion.D) (c:Int) (i:Nat),0≤c→c+4*l.length≤9000000→∃j:Int,∀k,vhu u0 u2 (vn9 c l) c i k=k (.inr (c+4*l.length,j))
 |[],c,i,_,_=>⟨_,fun k=>by simp only [vn9,vhu,List.length_nil];simp;rfl⟩
 |y::l,c,i,h0,hc=>by
  simp only [List.length_cons]at hc
  obtain⟨j,hj⟩:=vgw (u0:=u0) (u2:=u2) l (c+4) (i+1) (by omega) (by omega)
  have w1:IntKind.wrap .i64 (c+1)=c+1:=vbq (by omega) (by omega)
  have w2:IntKind.wrap .i64 (c+1+1)=c+2:=by rw [vbq (by omega) (by omega)];omega
  have w3:IntKind.wrap .i64 (c+2+1)=c+3:=by rw [vbq (by omega) (by omega)];omega
  have w4:IntKind.wrap .i64 (c+3+1)=c+4:=by rw [vbq (by omega) (by omega)];omega
  refine⟨j,fun k=>?_⟩
  simp only [vn9,vhu,vbi (show c≤10000000 by omega),w1,vbi (show c+1≤10000000 by omega),vcd,Bool.not_true,cond_false,w2,w3,w4,beq_self_eq_true,bne_self_eq_false,hj,List.length_cons]
  congr 3
  push_cast
  omega
theorem vqk {l:List tVersion.D}(hl:l.length≤1048576){c:Int}(h0:0≤c)(hc:c+4*l.length≤9000000) (k):vtn (vn9 c l) c k=k (c+4*(l.length:Int)):=by
 rw [wjz (by rw [voq];omega)]
 unfold v70
 obtain⟨j,hj⟩:=vgw (u0:=vn9 c l) (u2:=0) l c 0 h0 hc
 rw [hj];rfl
theorem vxo {l:List tRange.D}(hl:l.length≤1048576){c:Int}(h0:0≤c)(hc:c+2*l.length≤9000000) (k):vqg (vns c l) c k=k (c+2*(l.length:Int)):=by
 rw [wla (by rw [vo1];omega)]
 unfold v9f
 obtain⟨j,hj⟩:=vj0 (u0:=vns c l) (u2:=0) l c 0 h0 hc
 rw [hj];rfl
theorem vw8 {l:List tWrite.D}(hl:l.length≤1048576){c:Int}(h0:0≤c)(hc:c+3*l.length≤9000000) (k):vpz (vnv c l) c k=k (c+3*(l.length:Int)):=by
 rw [wls (by rw [vot];omega)]
 unfold wb4
 obtain⟨j,hj⟩:=vjo (u0:=vnv c l) (u2:=0) l c 0 h0 hc
 rw [hj];rfl
theorem vml {u0 u2}:∀(l:List tTxn.D) (c:Int) (i:Nat),(∀y∈l,y.2.2.2.2.1.length≤1048576∧y.2.2.2.2.2.1.length≤1048576)→0≤c→c+cntT l≤9000000→∃j:Int,∀k,vho u0 u2 (vlw c l) c i k=k (.inr (c+cntT l,j))
 |[],c,i,_,_,_=>⟨_,fun k=>by simp only [vlw,vho,cntT];simp;rfl⟩
 |y::l,c,i,hw,h0,hc=>by
  obtain⟨hy1,hy2⟩:=hw y (by simp)
  have hp1:=vc2 l
  simp only [cntT]at hc
  have hcy:vnp y=6+2*(y.2.2.2.2.1.length:Int)+3*(y.2.2.2.2.2.1.length:Int):=rfl
  obtain⟨j,hj⟩:=vml (u0:=u0) (u2:=u2) l (c+vnp y) (i+1) (fun z hz=>hw z (by simp [hz])) (by omega) (by omega)
  have w1:IntKind.wrap .i64 (c+1)=c+1:=vbq (by omega) (by omega)
  have w2:IntKind.wrap .i64 (c+1+1)=c+2:=by rw [vbq (by omega) (by omega)];omega
  have w3:IntKind.wrap .i64 (c+2+1)=c+3:=by rw [vbq (by omega) (by omega)];omega
  have w4:IntKind.wrap .i64 (c+3+1)=c+4:=by rw [vbq (by omega) (by omega)];omega
  have w5:IntKind.wrap .i64 (c+4+2*(y.2.2.2.2.1.length:Int)+3*(y.2.2.2.2.2.1.length:Int)+1)=c+4+2*(y.2.2.2.2.1.length:Int)+3*(y.2.2.2.2.2.1.length:Int)+1:=vbq (by omega) (by omega)
  have w6:IntKind.wrap .i64 (c+4+2*(y.2.2.2.2.1.length:Int)+3*(y.2.2.2.2.2.1.length:Int)+1+1)=c+vnp y:=by rw [vbq (by omega) (by omega)];omega
  have n1:decide (c+4+2*(y.2.2.2.2.1.length:Int)<0)=false:=decide_eq_false (by omega)
  have n2:decide (c+4+2*(y.2.2.2.2.1.length:Int)+3*(y.2.2.2.2.2.1.length:Int)<0)=false:=decide_eq_false (by omega)
  refine⟨j,fun k=>?_⟩
  simp only [vlw,v3m,vho,w1,w2,w3,w4,bne_self_eq_false,cond_false,vxo hy1 (show 0≤c+4 by omega) (show c+4+2*(y.2.2.2.2.1.length:Int)≤9000000 by omega),n1,
   vw8 hy2 (show 0≤c+4+2*(y.2.2.2.2.1.length:Int) by omega) (show c+4+2*(y.2.2.2.2.1.length:Int)+3*(y.2.2.2.2.2.1.length:Int)≤9000000 by omega),n2,beq_self_eq_true,Bool.not_true,w5,
   vbi (show c+4+2*(y.2.2.2.2.1.length:Int)+3*(y.2.2.2.2.2.1.length:Int)+1≤10000000 by omega),vcd,w6,hj,cntT]
  congr 3
  omega
theorem vlg {l:List tTxn.D}(hw:∀y∈l,y.2.2.2.2.1.length≤1048576∧y.2.2.2.2.2.1.length≤1048576)(hl:l.length≤1048576){c:Int}(h0:0≤c)(hc:c+cntT l≤9000000) (k) :
  voh (vlw c l) c k=k (c+cntT l):=by
 rw [wlg (by rw [vox];omega)]
 unfold wa3
 obtain⟨j,hj⟩:=vml (u0:=vlw c l) (u2:=0) l c 0 hw h0 hc
 rw [hj];rfl
def OkTs (l:List tTxn.D):Prop:=(∀y∈l,y.2.2.2.2.1.length≤1048576∧y.2.2.2.2.2.1.length≤1048576)∧l.length≤1048576
theorem v1t {l:List tTxn.D}(h:(Ty.slice tTxn).wt l≤1048576):OkTs l:=
 ⟨fun y hy=>by
  have:=ve4 hy h
  rw [v8o]at this
  exact⟨vec (T:=tRange) (by omega),vec (T:=tWrite) (by omega)⟩,vec h⟩
theorem v05 {l:List tTxn.D}:cntT l≤6*((Ty.slice tTxn).wt l:Nat):=by
 have:=wbk l
 rw [Ty.wt_slice];exact this
def cntB (b:tBase.D):Int:=4*(b.1.length:Int)+cntT b.2.1+cntT b.2.2.1
def OkBs (b:tBase.D):Prop:=b.1.length≤1048576∧OkTs b.2.1∧OkTs b.2.2.1
def vmn (c:Int)(b:tBase.D):tBase.D:=(vn9 c b.1,(vlw (c+4*b.1.length) b.2.1,(vlw (c+4*b.1.length+cntT b.2.1) b.2.2.1,b.2.2.2)))
theorem vxi (b:tBase.D):0≤cntB b:=by unfold cntB;have:=vc2 b.2.1;have:=vc2 b.2.2.1;omega
theorem wh6 {b:tBase.D}(h:tBase.wt b≤1048576):OkBs b:=by
 rw [vzv]at h
 exact⟨vec (T:=tVersion) (by omega),v1t (by omega),v1t (by omega)⟩
theorem wh9 (b:tBase.D):cntB b≤6*(tBase.wt b:Nat):=by
 have h1:=v05 (l:=b.2.1)
 have h2:=v05 (l:=b.2.2.1)
 have h3:(Ty.slice tVersion).wt b.1=b.1.length+wtL tVersion b.1:=Ty.wt_slice _ _
 have h4:=vzv b
 unfold cntB
 omega
theorem v2h {b:tBase.D}(hb:OkBs b){c:Int}(h0:0≤c)(hc:c+cntB b≤9000000)(a0 a1:Int) (k) :
  vzm a0 a1 c b.1 b.2.1 b.2.2.1 k=k (c+cntB b,(vmn c b).1,(vmn c b).2.1,(vmn c b).2.2.1):=by
 obtain⟨hb1,hb2,hb3⟩:=hb
 have p1:=vc2 b.2.1
 have p2:=vc2 b.2.2.1
 have hcb:cntB b=4*(b.1.length:Int)+cntT b.2.1+cntT b.2.2.1:=rfl
 rw [v7v]
 unfold v3j
 simp only [vnf hb1 h0 (by omega),vge hb2.1 hb2.2 (show 0≤c+4*(b.1.length:Int) by omega) (by omega),vge hb3.1 hb3.2 (show 0≤c+4*(b.1.length:Int)+cntT b.2.1 by omega) (by omega),vmn]
 congr 2
 omega
theorem v12 {b:tBase.D}(hb:OkBs b){c:Int}(h0:0≤c)(hc:c+cntB b≤9000000)(z:Int×Int) (k) :
  vz6 ((vmn c b).1,((vmn c b).2.1,((vmn c b).2.2.1,z))) c k=k (c+cntB b):=by
 obtain⟨hb1,hb2,hb3⟩:=hb
 have p1:=vc2 b.2.1
 have p2:=vc2 b.2.2.1
 have hcb:cntB b=4*(b.1.length:Int)+cntT b.2.1+cntT b.2.2.1:=rfl
 have n1:decide (c+4*(b.1.length:Int)<0)=false:=decide_eq_false (by omega)
 have n2:decide (c+4*(b.1.length:Int)+cntT b.2.1<0)=false:=decide_eq_false (by omega)
 have n3:decide (c+4*(b.1.length:Int)+cntT b.2.1+cntT b.2.2.1<0)=false:=decide_eq_false (by omega)
 rw [v8n]
 unfold v5n
 simp only [vmn,vqk hb1 h0 (by omega),n1,cond_false,vlg hb2.1 hb2.2 (show 0≤c+4*(b.1.length:Int) by omega) (by omega),n2,vlg hb3.1 hb3.2 (show 0≤c+4*(b.1.length:Int)+cntT b.2.1 by omega) (by omega),n3]
 congr 1
 omega
def cntE (e:tEngine.D):Int:=cntB e.1+cntT e.2
def OkE (e:tEngine.D):Prop:=OkBs e.1∧OkTs e.2
def vlq (c:Int)(e:tEngine.D):tEngine.D:=(vmn c e.1,vlw (c+cntB e.1) e.2)
theorem wj0 {e:tEngine.D}(h:tEngine.wt e≤1048576):OkE e:=by
 rw [vmj]at h
 exact⟨wh6 (by omega),v1t (by omega)⟩
theorem v3e (e:tEngine.D):0≤cntE e:=by unfold cntE;have:=vxi e.1;have:=vc2 e.2;omega
theorem wiq (e:tEngine.D):cntE e≤6*(tEngine.wt e:Nat):=by
 have h1:=wh9 e.1
 have h2:=v05 (l:=e.2)
 have h4:=vmj e
 unfold cntE
 omega
theorem vmx {e:tEngine.D}(hb:OkE e){c:Int}(h0:0≤c)(hc:c+cntE e≤9000000)(a0 a1:Int) (k) :
  vmi a0 a1 c e.1.1 e.1.2.1 e.1.2.2.1 e.2 k=k (c+cntE e,(vlq c e).1.1,(vlq c e).1.2.1,(vlq c e).1.2.2.1,(vlq c e).2):=by
 obtain⟨hb1,hb2⟩:=hb
 have p1:=vxi e.1
 have p2:=vc2 e.2
 have hcb:cntE e=cntB e.1+cntT e.2:=rfl
 rw [v89]
 unfold v3i
 simp only [v2h hb1 h0 (by omega),vge hb2.1 hb2.2 (show 0≤c+cntB e.1 by omega) (by omega),vlq]
 congr 2
 omega
theorem vmv {e:tEngine.D}(hb:OkE e){c:Int}(h0:0≤c)(hc:c+cntE e≤9000000)(z:Int×Int) (k) :
  vm1 (((vlq c e).1.1,((vlq c e).1.2.1,((vlq c e).1.2.2.1,z))),(vlq c e).2) c k=k (c+cntE e):=by
 obtain⟨hb1,hb2⟩:=hb
 have p1:=vxi e.1
 have p2:=vc2 e.2
 have hcb:cntE e=cntB e.1+cntT e.2:=rfl
 have n1:decide (c+cntB e.1<0)=false:=decide_eq_false (by omega)
 have n2:decide (c+cntB e.1+cntT e.2<0)=false:=decide_eq_false (by omega)
 rw [v95]
 unfold v3r
 simp only [vlq,v12 hb1 h0 (by omega),n1,cond_false,vlg hb2.1 hb2.2 (show 0≤c+cntB e.1 by omega) (by omega),n2]
 congr 1
 omega
end
end Go.VE
/- Plain laws of engines: copies,comparisons,marks where lists are short;GetKey. -/
namespace Go.VE
noncomputable section
set_option linter.unusedVariables false
set_option linter.unusedSimpArgs false
set_option maxRecDepth 100000
theorem vx6 {u0:List tTxn.D}:∀(l acc:List tTxn.D) (i:Nat),(∀y∈l,y.2.2.2.2.1.length≤1048576∧y.2.2.2.2.2.1.length≤1048576)→acc.length+l.length≤1048576→
  ∃j:Int,∀K,vhy u0 l acc i K=K (j,acc++l)
 |[],acc,i,_,_=>⟨_,fun K=>by simp only [vhy,List.append_nil];rfl⟩
 |y::l,acc,i,hw,h=>by
  simp only [List.length_cons]at h
  obtain⟨j,hj⟩:=vx6 (u0:=u0) l (acc++[y]) (i+1) (fun z hz=>hw z (by simp [hz])) (by rw [List.length_append,List.length_singleton];omega)
  have hy:=hw y (by simp)
  refine⟨j,fun K=>?_⟩
  simp only [vhy,v8b hy.1 hy.2,vks]
  rw [if_pos (by rw [List.length_singleton];have:VE.maxLen=4294967296:=rfl;omega),hj]
  simp only [List.append_assoc,List.singleton_append]
theorem vqn {l:List tTxn.D}(h:OkTs l) (k):vo0 l k=k l:=by
 rw [wjm (by have:=h.2;omega)]
 obtain⟨j,hj⟩:=vx6 (u0:=l) l [] 0 h.1 (by simpa using h.2)
 simp only [wbg,hj,List.nil_append]
theorem vyd {u0:List tTxn.D}:∀(l acc:List tTxn.D) (i:Nat),(∀y∈l,y.2.2.2.2.1.length≤1048576∧y.2.2.2.2.2.1.length≤1048576)→acc.length+l.length≤1048576→
  ∃j:Int,∀K,vhx u0 l acc i K=K (j,acc++l)
 |[],acc,i,_,_=>⟨_,fun K=>by simp only [vhx,List.append_nil];rfl⟩
 |y::l,acc,i,hw,h=>by
  simp only [List.length_cons]at h
  obtain⟨j,hj⟩:=vyd (u0:=u0) l (acc++[y]) (i+1) (fun z hz=>hw z (by simp [hz])) (by rw [List.length_append,List.length_singleton];omega)
  have hy:=hw y (by simp)
  refine⟨j,fun K=>?_⟩
  simp only [vhx,wi0 hy.1 hy.2,vks]
  rw [if_pos (by rw [List.length_singleton];have:VE.maxLen=4294967296:=rfl;omega),hj]
  simp only [List.append_assoc,List.singleton_append]
theorem vr5 {l:List tTxn.D}(h:OkTs l) (k):vo2 l k=k l:=by
 rw [wl3 (by have:=h.2;omega)]
 obtain⟨j,hj⟩:=vyd (u0:=l) l [] 0 h.1 (by simpa using h.2)
 simp only [v8l,hj,List.nil_append]
theorem v7j {e:tEngine.D}(h:OkE e) (k):vxw e k=k (e.1.2.2.2.1,e.1.2.2.2.2,e.1.1,e.1.2.1,e.1.2.2.1,e.2):=by
 rw [v8u]
 unfold v3z
 rw [v3g]
 unfold vy0
 rw [if_pos (by have h1:=h.1.1;have:VE.maxLen=4294967296:=rfl;simp only [List.length_nil];omega)]
 simp only [vqn h.1.2.1,vqn h.1.2.2,vqn h.2,List.nil_append]
theorem wh7 {e:tEngine.D}(h:OkE e) (k):vzb e k=k (e.1.2.2.2.1,e.1.2.2.2.2,e.1.1,e.1.2.1,e.1.2.2.1,e.2):=by
 rw [v8w]
 unfold v4i
 rw [v4a]
 unfold vzw
 rw [if_pos (by have h1:=h.1.1;have:VE.maxLen=4294967296:=rfl;omega)]
 simp only [vr5 h.1.2.1,vr5 h.1.2.2,vr5 h.2]
theorem vk7 {u0:List tTxn.D}(hu:OkTs u0){u2:Bool}:∀(l:List tTxn.D) (i:Nat),u0.drop i=l→∃z,∀k,vfu u0 u0 u2 l i k=k (.inr z)
 |[],i,h=>⟨_,fun k=>rfl⟩
 |y::l,i,h=>by
  have hlt:=vc6 h
  obtain⟨z,hz⟩:=vk7 hu (u2:=u2) l (i+1) (vbd h)
  have hy:=(vap h).1
  have hm:=hu.1 y (vlo h)
  refine⟨z,fun k=>?_⟩
  simp only [vfu]
  rw [if_pos ⟨by omega,by omega⟩]
  simp only [hy,vuj y hm.1 hm.2,Bool.not_true,cond_false,hz]
theorem vqs {x:List tTxn.D}(h:OkTs x) (k):vnd x x k=k true:=by
 rw [whk (by have:=h.2;omega)]
 obtain⟨z,hz⟩:=vk7 h (u2:=false) x 0 rfl
 simp [v4e,hz]
theorem v2e {e:tEngine.D}(h:OkE e) (k):vd1 e e k=k true:=by
 rw [v35]
 unfold vy5
 rw [v40]
 simp [vyj,vj2 h.1.1,vqs h.1.2.1,vqs h.1.2.2,vqs h.2]
theorem vz8 (p:tTxn.D→Bool):∀(l:List tTxn.D) (i:Nat),atF p l i = -1∨∃a:Nat,atF p l i=(a:Int)∧i≤a∧a<i+l.length
 |[],i=>.inl rfl
 |y::l,i=>by
  simp only [atF]
  cases p y
  ·rcases vz8 p l (i+1)with h|⟨a,h,h1,h2⟩
   ·exact .inl h
   ·exact .inr ⟨a,h,by omega,by simp only [List.length_cons];omega⟩
  ·exact .inr ⟨i,rfl,Nat.le_refl _,by simp only [List.length_cons];omega⟩
def vn7 (e:tEngine.D)(c:Int):Int:=atF (fun x=>x.1==c) e.2 0
theorem v1u (e:tEngine.D)(c:Int):vn7 e c = -1∨∃a:Nat,∃t,vn7 e c=(a:Int)∧a<e.2.length∧e.2[a]? = some t∧rd (Ty.zero tTxn) e.2 (a:Int)=t:=by
 rcases vz8 (fun x=>x.1==c) e.2 0 with h|⟨a,h,h1,h2⟩
 ·exact .inl h
 ·have hlt:a<e.2.length:=by omega
  exact .inr ⟨a,e.2[a],h,hlt,List.getElem?_eq_getElem hlt,by simp [rd,List.getElem?_eq_getElem hlt]⟩
end
end Go.VE
/- Plain laws: what is trimmed. -/
namespace Go.VE
noncomputable section
set_option linter.unusedVariables false
set_option linter.unusedSimpArgs false
set_option maxRecDepth 100000
def vkx (L:List tVersion.D)(snap:Int):List tVersion.D→Nat→List tVersion.D
 |[],_=>[]
 |y::l,i=>bif decide (y.2.2.2>snap)||(vit L y.1 snap==(i:Int))then y::vkx L snap l (i+1)else vkx L snap l (i+1)
def cntK (L:List tVersion.D)(key:ByteArray):Nat:=(L.filter fun y=>vbm y.1 key).length
def vnu (L:List tVersion.D)(snap:Int)(y:tVersion.D):Bool:=decide (y.2.2.2>snap) || !y.2.2.1||decide (1<cntK L y.1)
def v7s (L:List tVersion.D)(snap:Int):List tVersion.D:=(vkx L snap L 0).filter (vnu (vkx L snap L 0) snap)
theorem vm0 (L:List tVersion.D)(snap:Int):∀(l:List tVersion.D) (i:Nat),(vkx L snap l i).length≤l.length
 |[],i=>Nat.le_refl _
 |y::l,i=>by
  have:=vm0 L snap l (i+1)
  simp only [vkx]
  cases decide (y.2.2.2>snap)||(vit L y.1 snap==(i:Int))
  ·simp only [cond_false,List.length_cons];omega
  ·simp only [cond_true,List.length_cons];omega
theorem vyi (L:List tVersion.D)(snap:Int):(v7s L snap).length≤L.length:=Nat.le_trans (List.length_filter_le _ _) (vm0 L snap L 0)
theorem vno {L:List tVersion.D}(hL:L.length≤1048576){snap:Int}{u2:List tVersion.D}:∀(l s:List tVersion.D) (i:Nat),s.length+l.length≤3000000→∃j:Int,∀k,vf2 L snap u2 l s i k=k (j,s++vkx L snap l i)
 |[],s,i,_=>⟨(i:Int),fun k=>by simp only [vf2,vkx,List.append_nil]⟩
 |y::l,s,i,h=>by
  simp only [List.length_cons]at h
  have hm:s.length+[y].length≤VE.maxLen:=by show _≤4294967296;simp only [List.length_singleton];omega
  obtain⟨j1,hj1⟩:=vno hL (snap:=snap) (u2:=u2) l (s++[y]) (i+1) (by rw [List.length_append,List.length_singleton];omega)
  obtain⟨j2,hj2⟩:=vno hL (snap:=snap) (u2:=u2) l s (i+1) (by omega)
  simp only [vf2,vkx,vcj,wh5 hL,vks,cond_true,if_pos hm]
  cases decide (y.2.2.2>snap)with
  |true=>exact⟨j1,fun k=>by simp only [cond_true,Bool.true_or,hj1,List.append_assoc,List.singleton_append]⟩
  |false=>
   simp only [cond_false,Bool.false_or]
   cases vit L y.1 snap==(i:Int)with
   |true=>exact⟨j1,fun k=>by simp only [cond_true,hj1,List.append_assoc,List.singleton_append]⟩
   |false=>exact⟨j2,fun k=>by simp only [cond_false,hj2]⟩
theorem vnj {L:List tVersion.D}(hL:L.length≤1048576){snap:Int}:∀(l s:List tVersion.D) (i:Nat),L.drop i=l→s.length+l.length≤3000000→∃j:Int,∀k,vgj L snap l s i k=k (j,s++vkx L snap l i)
 |[],s,i,_,_=>⟨(i:Int),fun k=>by simp only [vgj,vkx,List.append_nil]⟩
 |y::l,s,i,hd,h=>by
  have hlt:=vc6 hd
  have hy:rd (Ty.zero tVersion) L (i:Int)=y:=(vap hd).1 _
  simp only [List.length_cons]at h
  have hm:s.length+[y].length≤VE.maxLen:=by show _≤4294967296;simp only [List.length_singleton];omega
  have hi:0≤(i:Int)∧(i:Int)<(L.length:Int):=⟨by omega,by omega⟩
  obtain⟨j1,hj1⟩:=vnj hL (snap:=snap) l (s++[y]) (i+1) (vbd hd) (by rw [List.length_append,List.length_singleton];omega)
  obtain⟨j2,hj2⟩:=vnj hL (snap:=snap) l s (i+1) (vbd hd) (by omega)
  simp only [vgj,vkx,vch,wix hL,hy,cond_true,if_pos hm,if_pos hi]
  cases decide (y.2.2.2>snap)with
  |true=>exact⟨j1,fun k=>by simp only [cond_true,Bool.true_or,hj1,List.append_assoc,List.singleton_append]⟩
  |false=>
   simp only [cond_false,Bool.false_or]
   cases vit L y.1 snap==(i:Int)with
   |true=>exact⟨j1,fun k=>by simp only [cond_true,hj1,List.append_assoc,List.singleton_append]⟩
   |false=>exact⟨j2,fun k=>by simp only [cond_false,hj2]⟩
theorem vob {u0:ByteArray}{u4:List tVersion.D}:∀(l:List tVersion.D) (n i:Nat),n+l.length≤3000000→∃j:Int,∀k,vhq u0 u4 l (n:Int) i k=k (((n+cntK l u0:Nat):Int),j)
 |[],n,i,_=>⟨(i:Int),fun k=>rfl⟩
 |y::l,n,i,h=>by
  simp only [List.length_cons]at h
  have hw:IntKind.wrap .i64 ((n:Int)+1)=((n+1:Nat):Int):=vbp (by omega)
  obtain⟨j1,hj1⟩:=vob (u0:=u0) (u4:=u4) l (n+1) (i+1) (by omega)
  obtain⟨j2,hj2⟩:=vob (u0:=u0) (u4:=u4) l n (i+1) (by omega)
  have hc:cntK (y::l) u0=(bif vbm y.1 u0 then 1 else 0)+cntK l u0:=by
   unfold cntK
   rw [List.filter_cons]
   cases vbm y.1 u0
   ·simp
   ·simp only [if_true,List.length_cons,cond_true];omega
  rw [hc]
  simp only [vhq,hw]
  cases vbm y.1 u0 with
  |true=>exact⟨j1,fun k=>by simp only [cond_true,hj1];rw [show n+1+cntK l u0=n+(1+cntK l u0) by omega]⟩
  |false=>exact⟨j2,fun k=>by simp only [cond_false,hj2,Nat.zero_add]⟩
theorem wh8 {u0:ByteArray}{u4:List tVersion.D}(h:u4.length≤1048576) (k):vv3 u0 u4 k=k ((cntK u4 u0:Int),u4):=by
 rw [wj7 (by omega)]
 unfold v90
 obtain⟨j,hj⟩:=vob (u0:=u0) (u4:=u4) u4 0 0 (by omega)
 have hz:((0:Nat):Int)=0:=rfl
 rw [hz]at hj
 rw [hj,Nat.zero_add]
theorem vn6 {L:List tVersion.D}(hL:L.length≤1048576){snap:Int}:∀(l s:List tVersion.D) (i q:Nat),L.drop i=l→l.length<q→s.length+l.length≤3000000→∃j:Int,∀K,
  vac vii q (snap,(L.length:Int),(i:Int),s,L) K=K (snap,(L.length:Int),j,s++l.filter (vnu L snap),L)
 |l,s,i,0,_,h,_=>by omega
 |[],s,i,q+1,hd,_,_=>by
  have hge:=vay hd
  exact⟨(i:Int),fun K=>by simp only [vac,vii,hge,decide_false,cond_false,Sum.elim_inr,List.filter_nil,List.append_nil]⟩
 |y::l,s,i,q+1,hd,hq,h=>by
  have hlt:=vc6 hd
  have hy:L.getD i (Ty.zero tVersion)=y:=(vap hd).2 _
  have hw1:IntKind.wrap .i64 ((i:Int)+1)=((i+1:Nat):Int):=vbp (by omega)
  simp only [List.length_cons]at h
  have hm:s.length+[y].length≤VE.maxLen:=by show _≤4294967296;simp only [List.length_singleton];omega
  obtain⟨j1,hj1⟩:=vn6 hL (snap:=snap) l (s++[y]) (i+1) q (vbd hd) (by simpa using hq) (by rw [List.length_append,List.length_singleton];omega)
  obtain⟨j2,hj2⟩:=vn6 hL (snap:=snap) l s (i+1) q (vbd hd) (by simpa using hq) (by omega)
  have hc:(decide ((cntK L y.1:Int)>1))=decide (1<cntK L y.1):=by
   by_cases c:1<cntK L y.1
   ·rw [decide_eq_true c,decide_eq_true (by omega)]
   ·rw [decide_eq_false c,decide_eq_false (by omega)]
  have key:∀b:Bool,vnu L snap y=b→((y::l).filter (vnu L snap))=bif b then y::l.filter (vnu L snap)else l.filter (vnu L snap):=fun b hb=>by
   rw [List.filter_cons,hb];cases b<;>rfl
  have hk:vnu L snap y=(decide (y.2.2.2>snap) || !y.2.2.1||decide (1<cntK L y.1)):=rfl
  simp only [vac,vii,show (i:Int)<(L.length:Int) by omega,show (0:Int)≤(i:Int) by omega,and_self,if_true,decide_true,cond_true,Int.toNat_natCast,hy,hw1,if_pos hm,wh8 hL,hc,Sum.elim_inl]
  cases h1:decide (y.2.2.2>snap)with
  |true=>
   rw [h1]at hk
   exact⟨j1,fun K=>by simp only [cond_true];rw [hj1,key _ hk];simp only [Bool.true_or,cond_true,List.append_assoc,List.singleton_append]⟩
  |false=>
   rw [h1]at hk
   cases h2:y.2.2.1 with
   |false=>
    rw [h2]at hk
    exact⟨j1,fun K=>by simp only [cond_true,cond_false,Bool.not_false];rw [hj1,key _ hk];simp only [Bool.false_or,Bool.not_false,Bool.true_or,cond_true,List.append_assoc,List.singleton_append]⟩
   |true=>
    rw [h2]at hk
    cases h3:decide (1<cntK L y.1)with
    |true=>
     rw [h3]at hk
     exact⟨j1,fun K=>by simp only [cond_true,cond_false,Bool.not_true];rw [hj1,key _ hk];simp only [Bool.false_or,Bool.not_true,cond_true,List.append_assoc,List.singleton_append]⟩
    |false=>
     rw [h3]at hk
     exact⟨j2,fun K=>by simp only [cond_false,Bool.not_true];rw [hj2,key _ hk];simp only [Bool.false_or,Bool.not_true,cond_false]⟩
theorem wio {L:List tVersion.D}(hL:L.length≤1048576)(snap:Int) (k):vqc L snap k=k (v7s L snap):=by
 rw [wl4 (by omega)]
 unfold wap
 obtain⟨j,hj⟩:=vno hL (snap:=snap) (u2:=L) L [] 0 (by simp;omega)
 have hl:=vm0 L snap L 0
 obtain⟨j2,hj2⟩:=vn6 (L:=vkx L snap L 0) (by omega) (snap:=snap) (vkx L snap L 0) [] 0 Fuel rfl (Nat.lt_of_lt_of_le (by omega) vd0) (by simp;omega)
 have hz:((0:Nat):Int)=0:=rfl
 rw [hz]at hj2
 rw [hj]
 simp only [List.nil_append]at hj2 ⊢
 rw [hj2]
 rfl
theorem vnk {snap:Int}{u1:Nat}{L s:List tVersion.D}(h1:u1<L.length){y0:tVersion.D}(hy0:L.getD u1 (Ty.zero tVersion)=y0):∀(l:List tVersion.D) (n i:Nat),n+l.length≤3000000→∃j:Int,∀k,vh5 snap (u1:Int) L s l (n:Int) i k=k (((n+cntK l y0.1:Nat):Int),j)
 |[],n,i,_=>⟨(i:Int),fun k=>rfl⟩
 |y::l,n,i,h=>by
  simp only [List.length_cons]at h
  have hw:IntKind.wrap .i64 ((n:Int)+1)=((n+1:Nat):Int):=vbp (by omega)
  obtain⟨j1,hj1⟩:=vnk (snap:=snap) (s:=s) h1 hy0 l (n+1) (i+1) (by omega)
  obtain⟨j2,hj2⟩:=vnk (snap:=snap) (s:=s) h1 hy0 l n (i+1) (by omega)
  have hc:cntK (y::l) y0.1=(bif vbm y.1 y0.1 then 1 else 0)+cntK l y0.1:=by
   unfold cntK
   rw [List.filter_cons]
   cases vbm y.1 y0.1
   ·simp
   ·simp only [if_true,List.length_cons,cond_true];omega
  rw [hc]
  have hi:0≤(u1:Int)∧(u1:Int)<(L.length:Int):=⟨by omega,by omega⟩
  simp only [vh5,hw,Int.toNat_natCast,hy0,if_pos hi]
  cases vbm y.1 y0.1 with
  |true=>exact⟨j1,fun k=>by simp only [cond_true,hj1];rw [show n+1+cntK l y0.1=n+(1+cntK l y0.1) by omega]⟩
  |false=>exact⟨j2,fun k=>by simp only [cond_false,hj2,Nat.zero_add]⟩
theorem voa {L:List tVersion.D}(hL:L.length≤1048576){snap:Int}:∀(l s:List tVersion.D) (i:Nat),L.drop i=l→s.length+l.length≤3000000→∃j:Int,∀k,vfw snap L l s i k=k (j,s++l.filter (vnu L snap))
 |[],s,i,_,_=>⟨(i:Int),fun k=>by simp only [vfw,List.filter_nil,List.append_nil]⟩
 |y::l,s,i,hd,h=>by
  have hlt:=vc6 hd
  have hy:L.getD i (Ty.zero tVersion)=y:=(vap hd).2 _
  simp only [List.length_cons]at h
  have hm:s.length+[y].length≤VE.maxLen:=by show _≤4294967296;simp only [List.length_singleton];omega
  have hi:0≤(i:Int)∧(i:Int)<(L.length:Int):=⟨by omega,by omega⟩
  obtain⟨j0,hj0⟩:=vnk (snap:=snap) (s:=s) hlt hy L 0 0 (by omega)
  have hz:((0:Nat):Int)=0:=rfl
  rw [hz]at hj0
  obtain⟨j1,hj1⟩:=voa hL (snap:=snap) l (s++[y]) (i+1) (vbd hd) (by rw [List.length_append,List.length_singleton];omega)
  obtain⟨j2,hj2⟩:=voa hL (snap:=snap) l s (i+1) (vbd hd) (by omega)
  have hc:(decide (((0+cntK L y.1:Nat):Int)>1))=decide (1<cntK L y.1):=by
   rw [Nat.zero_add]
   by_cases c:1<cntK L y.1
   ·rw [decide_eq_true c,decide_eq_true (by omega)]
   ·rw [decide_eq_false c,decide_eq_false (by omega)]
  have key:∀b:Bool,vnu L snap y=b→((y::l).filter (vnu L snap))=bif b then y::l.filter (vnu L snap)else l.filter (vnu L snap):=fun b hb=>by
   rw [List.filter_cons,hb];cases b<;>rfl
  have hk:vnu L snap y=(decide (y.2.2.2>snap) || !y.2.2.1||decide (1<cntK L y.1)):=rfl
  simp only [vfw,hj0,vb4,Int.toNat_natCast,hy,cond_true,if_pos hm,if_pos hi,hc]
  cases h2:y.2.2.1 with
  |false=>
   rw [h2,Bool.not_false,Bool.or_true,Bool.true_or]at hk
   exact⟨j1,fun k=>by simp only [cond_true,Bool.not_false];rw [hj1,key _ hk];simp only [cond_true,List.append_assoc,List.singleton_append]⟩
  |true=>
   rw [h2,Bool.not_true,Bool.or_false]at hk
   cases h1:decide (y.2.2.2>snap)with
   |true=>
    rw [h1,Bool.true_or]at hk
    exact⟨j1,fun k=>by simp only [cond_true,cond_false,Bool.not_true];rw [hj1,key _ hk];simp only [cond_true,List.append_assoc,List.singleton_append]⟩
   |false=>
    rw [h1,Bool.false_or]at hk
    cases h3:decide (1<cntK L y.1)with
    |true=>
     rw [h3]at hk
     exact⟨j1,fun k=>by simp only [cond_true,cond_false,Bool.not_true];rw [hj1,key _ hk];simp only [cond_true,List.append_assoc,List.singleton_append]⟩
    |false=>
     rw [h3]at hk
     exact⟨j2,fun k=>by simp only [cond_false,Bool.not_true];rw [hj2,key _ hk];simp only [cond_false]⟩
theorem wiv {L:List tVersion.D}(hL:L.length≤1048576)(snap:Int) (k):vp5 L snap k=k (v7s L snap):=by
 rw [wki (by omega)]
 unfold v8y
 obtain⟨j,hj⟩:=vnj hL (snap:=snap) L [] 0 rfl (by simp;omega)
 have hl:=vm0 L snap L 0
 obtain⟨j2,hj2⟩:=voa (L:=vkx L snap L 0) (by omega) (snap:=snap) (vkx L snap L 0) [] 0 rfl (by simp;omega)
 rw [hj]
 simp only [List.nil_append]at hj2 ⊢
 rw [wcc (by omega),hj2]
 rfl
end
end Go.VE
/- Plain laws: the text of a transaction,there and back. -/
namespace Go.VE
noncomputable section
set_option linter.unusedVariables false
set_option linter.unusedSimpArgs false
set_option maxRecDepth 100000
def Back (s:ByteArray)(a c:Int)(P:List Int):Prop:=0≤a∧c=a+(P.length:Int)∧c≤(s.size:Int)∧(ved s).drop a.toNat=P++(ved s).drop c.toNat
theorem Back.at {s:ByteArray}{a c:Int}{P:List Int}(h:Back s a c P):0≤a∧a≤(s.size:Int)∧0≤c∧c≤(s.size:Int):=by
 obtain⟨a1,a2,a3,a4⟩:=h
 omega
theorem Back.nil {s:ByteArray}{a c:Int}(h:Back s a c []):c=a:=by have:=h.2.1;simp at this;exact this
end
end Go.VE
/- Plain laws: slices.DeleteFunc,its loop. -/
namespace Go.VE
noncomputable section
set_option linter.unusedVariables false
set_option linter.unusedSimpArgs false
set_option maxRecDepth 100000
def inD (lo hi:Nat)(dd:List Nat):Prop:=∀d∈dd,lo≤d∧d<hi
theorem wby {lo hi:Nat}:∀{dd:List Nat},inD lo hi dd→hasD dd hi=false
 |[],_=>rfl
 |a::l,h=>by
  have h1:=h a (by simp)
  have hb:Nat.beq a hi=false:=by
   cases hb:Nat.beq a hi with
   |false=>rfl
   |true=>have:=Nat.eq_of_beq_eq_true hb;omega
  simp only [hasD,hb,wby (dd:=l) (fun d hd=>h d (by simp [hd])),Bool.or_self]
theorem wf3 {lo hi:Nat}:∀{dd:List Nat},inD lo hi dd→loD lo dd=[]
 |[],_=>rfl
 |a::l,h=>by
  have h1:=h a (by simp)
  have hb:Nat.blt a lo=false:=by
   cases hb:Nat.blt a lo with
   |false=>rfl
   |true=>rw [Nat.blt_eq]at hb;omega
  simp only [loD,hb,cond_false,wf3 (dd:=l) (fun d hd=>h d (by simp [hd]))]
theorem wa0 {lo hi:Nat}:∀{dd:List Nat},inD lo hi dd→inD (lo+1) (hi+1) (delD lo dd)
 |[],_=>fun d hd=>by simp [delD]at hd
 |a::l,h=>by
  have h1:=h a (by simp)
  have ih:=wa0 (dd:=l) (fun d hd=>h d (by simp [hd]))
  intro d hd
  simp only [delD]at hd
  cases hb:Nat.beq a lo with
  |true=>rw [hb]at hd;exact ih d hd
  |false=>
   rw [hb]at hd
   simp only [cond_false,List.mem_cons]at hd
   rcases hd with rfl|hd
   ·have:d≠lo:=fun e=>by subst e;rw [Nat.beq_refl]at hb;cases hb
    omega
   ·exact ih d hd
structure DelAt {α:Type} (p:α→Bool) (xs0:List α) (i j:Nat) (xs:List α) (dd:List Nat):Prop where
 len:xs.length=xs0.length
 lt:i<j
 le:j≤xs0.length
 kept:xs.take i=(xs0.take j).filter fun x=>!p x
 rest:xs.drop j=xs0.drop j
 dead:inD i j dd
theorem DelAt.get {α:Type}{p:α→Bool}{xs0 xs:List α}{i j:Nat}{dd:List Nat}(h:DelAt p xs0 i j xs dd)(hj:j<xs0.length)(d:α):xs.getD j d=xs0[j]:=by
 have h1:=congrArg (fun l=>l[0]?) h.rest
 simp only [List.getElem?_drop,Nat.add_zero,List.getElem?_eq_getElem hj]at h1
 simp [List.getD,h1]
theorem vlc {α:Type}(f:α→Bool)(xs:List α){j:Nat}(hj:j<xs.length):(xs.take (j+1)).filter f=(xs.take j).filter f++(if f xs[j]then [xs[j]]else []):=by
 rw [List.take_add_one,List.getElem?_eq_getElem hj,List.filter_append]
 congr 1
 cases hf:f xs[j]<;>simp [hf]
theorem DelAt.skip {α:Type}{p:α→Bool}{xs0 xs:List α}{i j:Nat}{dd:List Nat}(h:DelAt p xs0 i j xs dd)(hj:j<xs0.length)(hp:p xs0[j]=true):DelAt p xs0 i (j+1) xs dd where
 len:=h.len
 lt:=Nat.lt_succ_of_lt h.lt
 le:=hj
 kept:=by rw [vlc _ _ hj,h.kept,hp];simp
 rest:=by rw [←List.drop_drop,←List.drop_drop,h.rest]
 dead:=fun d hd=>⟨(h.dead d hd).1,Nat.lt_succ_of_lt (h.dead d hd).2⟩
theorem DelAt.keep {α:Type}{p:α→Bool}{xs0 xs:List α}{i j:Nat}{dd:List Nat}(h:DelAt p xs0 i j xs dd)(hj:j<xs0.length)(hp:p xs0[j]=false):DelAt p xs0 (i+1) (j+1) (xs.set i xs0[j]) (j::j::delD i dd) where
 len:=by rw [List.length_set];exact h.len
 lt:=Nat.succ_lt_succ h.lt
 le:=hj
 kept:=by
  have hi:i<xs.length:=by have:=h.lt;have:=h.len;omega
  rw [vlc _ _ hj,←h.kept,hp,List.take_add_one,List.getElem?_set_self hi,List.take_set_of_le (Nat.le_refl i)]
  simp
 rest:=by
  have:=h.lt
  rw [List.drop_set_of_lt (by omega),←List.drop_drop,←List.drop_drop,h.rest]
 dead:=fun d hd=>by
  have:=h.lt
  simp only [List.mem_cons]at hd
  rcases hd with rfl|rfl|hd
  ·omega
  ·omega
  ·exact wa0 h.dead d hd
theorem DelAt.done {α:Type}{p:α→Bool}{xs0 xs:List α}{i j:Nat}{dd:List Nat}(h:DelAt p xs0 i j xs dd)(hj:¬j<xs0.length):xs.take i=(xs0.filter fun x=>!p x)∧i=(xs0.filter fun x=>!p x).length∧loD i dd=[]:=by
 have e:j=xs0.length:=by have:=h.le;omega
 have h1:=h.kept
 rw [e,List.take_length]at h1
 refine⟨h1,?_,wf3 h.dead⟩
 rw [←h1,List.length_take]
 have:=h.lt
 have:=h.le
 have:=h.len
 omega
theorem DelAt.start {α:Type}{p:α→Bool}{xs0:List α}{i:Nat}(hi:i<xs0.length)(hp:p xs0[i]=true)(hb:∀t (ht:t<xs0.length),t<i→p xs0[t]=false):DelAt p xs0 i (i+1) xs0 [] where
 len:=rfl
 lt:=Nat.lt_succ_self i
 le:=hi
 kept:=by
  rw [vlc _ _ hi,hp]
  simp only [Bool.not_true,Bool.false_eq_true,if_false,List.append_nil]
  refine(List.filter_eq_self.2 fun y hy=>?_).symm
  obtain⟨t,ht,rfl⟩:=List.getElem_of_mem hy
  rw [List.length_take]at ht
  rw [List.getElem_take,hb t (by omega) (by omega)]
  rfl
 rest:=rfl
 dead:=fun d hd=>by cases hd
end
end Go.VE
/- Plain laws: slices.DeleteFunc answers the filtered list;bases with transactions given up. -/
namespace Go.VE
noncomputable section
set_option linter.unusedVariables false
set_option linter.unusedSimpArgs false
set_option maxRecDepth 100000
theorem v42 (p:tTxn.D→Bool):∀(l:List tTxn.D) (i:Nat),(atF p l i = -1∧∀y∈l,p y=false)∨∃(a:Nat) (ha:a<l.length),atF p l i=((i+a:Nat):Int)∧p l[a]=true∧∀t (ht:t<l.length),t<a→p l[t]=false
 |[],i=>.inl ⟨rfl,fun y h=>by cases h⟩
 |y::l,i=>by
  cases hp:p y with
  |true=>exact .inr ⟨0,by simp,by simp only [atF,hp,cond_true,Nat.add_zero],hp,fun t _ h=>by omega⟩
  |false=>
   rcases v42 p l (i+1)with⟨h,hn⟩|⟨a,ha,h,h1,h2⟩
   ·exact .inl ⟨by simp only [atF,hp,cond_false,h],fun z hz=>by rcases List.mem_cons.1 hz with rfl|hz;exact hp;exact hn z hz⟩
   ·refine .inr ⟨a+1,by simp only [List.length_cons];omega,by simp only [atF,hp,cond_false,h];congr 1;omega,h1,fun t ht hta=>?_⟩
    cases t with
    |zero=>exact hp
    |succ t=>exact h2 t (by simpa using ht) (by omega)
def tagS {α:Type}(b:Bool)(x:α):α⊕α:=bif b then .inr x else .inl x
theorem vpd {σ:Type}{c:σ}{p:tTxn.D→Bool}{xs0:List tTxn.D}(hl:xs0.length≤1048576)
  {B:((Int×Int×List tTxn.D×List Nat×σ)⊕(Int×Int×List tTxn.D×List Nat×σ))→(((Int×Int×List tTxn.D×List Nat×σ)⊕(Int×Int×List tTxn.D×List Nat×σ))⊕((Int×Int×List tTxn.D×List Nat×σ)⊕(Int×Int×List tTxn.D×List Nat×σ))→Option Res)→Option Res}
  (hk:∀b (i j:Nat) xs dd k,i<xs.length→j<xs.length→xs.length≤1048576→hasD dd j=false→p (xs.getD j (Ty.zero tTxn))=false→B (tagS b ((i:Int),(j:Int),xs,dd,c)) k=k (.inl (tagS true (((i+1:Nat):Int),((j+1:Nat):Int),xs.set i (xs.getD j (Ty.zero tTxn)),j::j::delD i dd,c))))
  (hs:∀b (i j:Nat) xs dd k,j<xs.length→xs.length≤1048576→hasD dd j=false→p (xs.getD j (Ty.zero tTxn))=true→B (tagS b ((i:Int),(j:Int),xs,dd,c)) k=k (.inl (tagS b ((i:Int),((j+1:Nat):Int),xs,dd,c))))
  (he:∀b (i j:Nat) xs dd k,¬j<xs.length→B (tagS b ((i:Int),(j:Int),xs,dd,c)) k=k (.inr (tagS b ((i:Int),(j:Int),xs,dd,c)))) :
  ∀(n:Nat) (xs:List tTxn.D) (i j:Nat) (dd:List Nat) (b:Bool) (q:Nat),xs0.length-j=n→DelAt p xs0 i j xs dd→n<q→
   ∃b' i' xs' dd',(i'≤xs'.length∧xs'.take i'=xs0.filter (fun x=>!p x)∧loD i' dd'=[])∧∀K,vac B q (tagS b ((i:Int),(j:Int),xs,dd,c)) K=K (tagS b' ((i':Int),((xs0.length:Nat):Int),xs',dd',c))
 |n,xs,i,j,dd,b,0,_,_,hq=>by omega
 |0,xs,i,j,dd,b,q+1,hn,h,_=>by
  have hlen:=h.len;have hle:=h.le;have hlt:=h.lt
  have hj:j=xs0.length:=by omega
  subst hj
  obtain⟨h1,h2,h3⟩:=h.done (by omega)
  refine⟨b,i,xs,dd,⟨by omega,h1,h3⟩,fun K=>?_⟩
  simp only [vac]
  rw [he b i _ xs dd _ (by omega)]
  simp only [Sum.elim_inr]
 |n+1,xs,i,j,dd,b,q+1,hn,h,hq=>by
  have hlen:=h.len;have hle:=h.le;have hlt:=h.lt
  have hj:j<xs0.length:=by omega
  have hd:hasD dd j=false:=wby h.dead
  have hg:=h.get hj (Ty.zero tTxn)
  cases hp:p xs0[j]with
  |true=>
   obtain⟨b',i',xs',dd',hh,hK⟩:=vpd hl hk hs he n xs i (j+1) dd b q (by omega) (h.skip hj hp) (by omega)
   refine⟨b',i',xs',dd',hh,fun K=>?_⟩
   simp only [vac]
   rw [hs b i j xs dd _ (by omega) (by omega) hd (by rw [hg];exact hp)]
   simp only [Sum.elim_inl]
   exact hK K
  |false=>
   obtain⟨b',i',xs',dd',hh,hK⟩:=vpd hl hk hs he n (xs.set i xs0[j]) (i+1) (j+1) (j::j::delD i dd) true q (by omega) (h.keep hj hp) (by omega)
   refine⟨b',i',xs',dd',hh,fun K=>?_⟩
   simp only [vac]
   rw [hk b i j xs dd _ (by omega) (by omega) (by omega) hd (by rw [hg];exact hp),hg]
   simp only [Sum.elim_inl]
   exact hK K
theorem vw0 {p:tTxn.D→Bool}{l:List tTxn.D}(h:∀y∈l,p y=false):l.filter (fun x=>!p x)=l:=
 List.filter_eq_self.2 fun y hy=>by rw [h y hy];rfl
theorem vp0 {l:List tTxn.D}(h:OkTs l)(p:tTxn.D→Bool):OkTs (l.filter p):=
 ⟨fun y hy=>h.1 y (List.mem_filter.1 hy).1,Nat.le_trans (List.length_filter_le _ _) h.2⟩
theorem vl6 (p:tTxn.D→Bool):∀l:List tTxn.D,cntT (l.filter p)≤cntT l
 |[]=>Int.le_refl _
 |y::l=>by
  have ih:=vl6 p l
  have h1:=vpu y
  rw [List.filter_cons]
  cases p y
  ·simp only [Bool.false_eq_true,if_false,cntT];omega
  ·simp only [if_true,cntT];omega
theorem v19 (x:tTxn.D)(c:Int) (k):vos x c k=k (decide (x.2.2.2.1≤c),c):=by rw [v9c];rfl
theorem vtz {u0 u1}{c:Int}:∀(l:List tTxn.D) (i:Nat),
  (∃a:Nat,atF (fun x=>decide (x.2.2.2.1≤c)) l i=(a:Int)∧∀k,vh6 u0 u1 l c i k=k (.inl ((a:Int),(a:Int),c)))∨
  ((∃b:Int,∀k,vh6 u0 u1 l c i k=k (.inr (b,c)))∧atF (fun x=>decide (x.2.2.2.1≤c)) l i = -1)
 |[],i=>.inr ⟨⟨_,fun k=>rfl⟩,rfl⟩
 |y::l,i=>by
  have ih:=vtz (u0:=u0) (u1:=u1) (c:=c) l (i+1)
  simp only [vh6,atF,v19]
  cases decide (y.2.2.2.1≤c)
  ·exact ih
  ·exact .inl ⟨i,rfl,fun k=>rfl⟩
theorem v9d {l:List tTxn.D}(c:Int)(hl:l.length≤1048576) (k):vr4 l c k=k (atF (fun x=>decide (x.2.2.2.1≤c)) l 0,c):=by
 rw [wkk (by omega)]
 unfold wah
 rcases vtz (u0:=l) (u1:=0) (c:=c) l 0 with⟨a,ha,h⟩|⟨⟨b,h⟩,ha⟩<;>rw [h,ha]<;>rfl
theorem wjd {l:List tTxn.D}(hl:l.length≤1048576)(c:Int) :
  ∃s,(s = .inl (l.filter (fun x=>!(decide (x.2.2.2.1≤c))),c)∨s = .inr (c,l.filter (fun x=>!(decide (x.2.2.2.1≤c)))))∧∀k,vuw l c k=k s:=by
 rcases v42 (fun x=>decide (x.2.2.2.1≤c)) l 0 with⟨h,hn⟩|⟨a,ha,h,h1,h2⟩
 ·refine⟨.inl (l,c),.inl (by rw [vw0 hn]),fun k=>?_⟩
  rw [wgq]
  unfold v3x
  rw [v9d c hl]
  simp only [h]
  rfl
 ·obtain⟨b',i',xs',dd',⟨q1,q2,q3⟩,hK⟩:=vpd (c:=c) (p:=fun x=>decide (x.2.2.2.1≤c)) hl (B:=ve7)
   (fun b i j xs dd k hi hj hx hd hp=>by
    have hw1:IntKind.wrap .i64 ((i:Int)+1)=((i+1:Nat):Int):=vbp (by omega)
    have hw2:IntKind.wrap .i64 ((j:Int)+1)=((j+1:Nat):Int):=vbp (by omega)
    cases b<;>simp only [ve7,tagS,cond_true,cond_false,Sum.elim_inl,Sum.elim_inr,show (j:Int)<(xs.length:Int) by omega,show (0:Int)≤(j:Int) by omega,show (i:Int)<(xs.length:Int) by omega,show (0:Int)≤(i:Int) by omega,and_self,if_true,decide_true,Int.toNat_natCast,hd,v19,hp,Bool.not_false,hw1,hw2])
   (fun b i j xs dd k hj hx hd hp=>by
    have hw2:IntKind.wrap .i64 ((j:Int)+1)=((j+1:Nat):Int):=vbp (by omega)
    cases b<;>simp only [ve7,tagS,cond_true,cond_false,Sum.elim_inl,Sum.elim_inr,show (j:Int)<(xs.length:Int) by omega,show (0:Int)≤(j:Int) by omega,and_self,if_true,decide_true,Int.toNat_natCast,hd,v19,hp,Bool.not_true,hw2])
   (fun b i j xs dd k hj=>by
    cases b<;>simp only [ve7,tagS,cond_true,cond_false,Sum.elim_inl,Sum.elim_inr,show ¬(j:Int)<(xs.length:Int) by omega,decide_false])
   (l.length-(a+1)) l a (a+1) [] false Fuel rfl (DelAt.start ha h1 h2) (Nat.lt_of_lt_of_le (by omega) vd0)
  refine⟨.inr (c,l.filter (fun x=>!(decide (x.2.2.2.1≤c)))),.inr rfl,fun k=>?_⟩
  have hw1:IntKind.wrap .i64 ((a:Int)+1)=((a+1:Nat):Int):=vbp (by omega)
  have hne:((a:Int)==(-1:Int))=false:=by rw [beq_eq_false_iff_ne];omega
  have ez:((0+a:Nat):Int)=(a:Int):=by omega
  have hlen:((xs'.take i'++List.replicate (xs'.length-i') (Ty.zero tTxn)).length:Nat)=xs'.length:=by rw [List.length_append,List.length_take,List.length_replicate];omega
  have htk:(xs'.take i'++List.replicate (xs'.length-i') (Ty.zero tTxn)).take i'=l.filter (fun x=>!(decide (x.2.2.2.1≤c))):=by
   rw [List.take_append_of_le_length (by rw [List.length_take];omega),List.take_take,Nat.min_self,q2]
  rw [wgq]
  unfold v3x
  rw [v9d c hl]
  simp only [tagS,cond_false]at hK
  simp only [h,ez,hne,cond_false,hw1,hK]
  cases b'<;>simp only [tagS,cond_true,cond_false,Sum.elim_inl,Sum.elim_inr,show (0:Int)≤(i':Int) by omega,show (i':Int)≤(xs'.length:Int) by omega,and_self,if_true,Int.toNat_natCast,hlen,q3,geD,htk]
theorem v1e (x:tTxn.D)(c:Int) (k):voz x c k=k ((x.1==c),c):=by rw [wb1];rfl
theorem vtk {u0 u1}{c:Int}:∀(l:List tTxn.D) (i:Nat),
  (∃a:Nat,atF (fun x=>(x.1==c)) l i=(a:Int)∧∀k,vh2 u0 u1 l c i k=k (.inl ((a:Int),(a:Int),c)))∨
  ((∃b:Int,∀k,vh2 u0 u1 l c i k=k (.inr (b,c)))∧atF (fun x=>(x.1==c)) l i = -1)
 |[],i=>.inr ⟨⟨_,fun k=>rfl⟩,rfl⟩
 |y::l,i=>by
  have ih:=vtk (u0:=u0) (u1:=u1) (c:=c) l (i+1)
  simp only [vh2,atF,v1e]
  cases (y.1==c)
  ·exact ih
  ·exact .inl ⟨i,rfl,fun k=>rfl⟩
theorem wbd {l:List tTxn.D}(c:Int)(hl:l.length≤1048576) (k):vra l c k=k (atF (fun x=>(x.1==c)) l 0,c):=by
 rw [wl8 (by omega)]
 unfold wbj
 rcases vtk (u0:=l) (u1:=0) (c:=c) l 0 with⟨a,ha,h⟩|⟨⟨b,h⟩,ha⟩<;>rw [h,ha]<;>rfl
theorem wiw {l:List tTxn.D}(hl:l.length≤1048576)(c:Int) :
  ∃s,(s = .inl (l.filter (fun x=>!((x.1==c))),c)∨s = .inr (c,l.filter (fun x=>!((x.1==c)))))∧∀k,vt0 l c k=k s:=by
 rcases v42 (fun x=>(x.1==c)) l 0 with⟨h,hn⟩|⟨a,ha,h,h1,h2⟩
 ·refine⟨.inl (l,c),.inl (by rw [vw0 hn]),fun k=>?_⟩
  rw [wgj]
  unfold v3v
  rw [wbd c hl]
  simp only [h]
  rfl
 ·obtain⟨b',i',xs',dd',⟨q1,q2,q3⟩,hK⟩:=vpd (c:=c) (p:=fun x=>(x.1==c)) hl (B:=ve6)
   (fun b i j xs dd k hi hj hx hd hp=>by
    have hw1:IntKind.wrap .i64 ((i:Int)+1)=((i+1:Nat):Int):=vbp (by omega)
    have hw2:IntKind.wrap .i64 ((j:Int)+1)=((j+1:Nat):Int):=vbp (by omega)
    cases b<;>simp only [ve6,tagS,cond_true,cond_false,Sum.elim_inl,Sum.elim_inr,show (j:Int)<(xs.length:Int) by omega,show (0:Int)≤(j:Int) by omega,show (i:Int)<(xs.length:Int) by omega,show (0:Int)≤(i:Int) by omega,and_self,if_true,decide_true,Int.toNat_natCast,hd,v1e,hp,Bool.not_false,hw1,hw2])
   (fun b i j xs dd k hj hx hd hp=>by
    have hw2:IntKind.wrap .i64 ((j:Int)+1)=((j+1:Nat):Int):=vbp (by omega)
    cases b<;>simp only [ve6,tagS,cond_true,cond_false,Sum.elim_inl,Sum.elim_inr,show (j:Int)<(xs.length:Int) by omega,show (0:Int)≤(j:Int) by omega,and_self,if_true,decide_true,Int.toNat_natCast,hd,v1e,hp,Bool.not_true,hw2])
   (fun b i j xs dd k hj=>by
    cases b<;>simp only [ve6,tagS,cond_true,cond_false,Sum.elim_inl,Sum.elim_inr,show ¬(j:Int)<(xs.length:Int) by omega,decide_false])
   (l.length-(a+1)) l a (a+1) [] false Fuel rfl (DelAt.start ha h1 h2) (Nat.lt_of_lt_of_le (by omega) vd0)
  refine⟨.inr (c,l.filter (fun x=>!((x.1==c)))),.inr rfl,fun k=>?_⟩
  have hw1:IntKind.wrap .i64 ((a:Int)+1)=((a+1:Nat):Int):=vbp (by omega)
  have hne:((a:Int)==(-1:Int))=false:=by rw [beq_eq_false_iff_ne];omega
  have ez:((0+a:Nat):Int)=(a:Int):=by omega
  have hlen:((xs'.take i'++List.replicate (xs'.length-i') (Ty.zero tTxn)).length:Nat)=xs'.length:=by rw [List.length_append,List.length_take,List.length_replicate];omega
  have htk:(xs'.take i'++List.replicate (xs'.length-i') (Ty.zero tTxn)).take i'=l.filter (fun x=>!((x.1==c))):=by
   rw [List.take_append_of_le_length (by rw [List.length_take];omega),List.take_take,Nat.min_self,q2]
  rw [wgj]
  unfold v3v
  rw [wbd c hl]
  simp only [tagS,cond_false]at hK
  simp only [h,ez,hne,cond_false,hw1,hK]
  cases b'<;>simp only [tagS,cond_true,cond_false,Sum.elim_inl,Sum.elim_inr,show (0:Int)≤(i':Int) by omega,show (i':Int)≤(xs'.length:Int) by omega,and_self,if_true,Int.toNat_natCast,hlen,q3,geD,htk]
theorem wjc {b:tBase.D}(h:OkBs b) (k):vrc b k=k (b.2.2.2.1,b.2.2.2.2,b.1,b.2.1,b.2.2.1):=by
 rw [v3g]
 unfold vy0
 rw [if_pos (by have h1:=h.1;have:VE.maxLen=4294967296:=rfl;simp only [List.length_nil];omega)]
 simp only [vqn h.2.1,vqn h.2.2,List.nil_append]
theorem wiu {b:tBase.D}(h:OkBs b) (k):vu9 b k=k (b.2.2.2.1,b.2.2.2.2,b.1,b.2.1,b.2.2.1):=by
 rw [v4a]
 unfold vzw
 rw [if_pos (by have h1:=h.1;have:VE.maxLen=4294967296:=rfl;omega)]
 simp only [vr5 h.2.1,vr5 h.2.2]
end
end Go.VE
/- Plain laws: bases tidied;who leaves. -/
namespace Go.VE
noncomputable section
set_option linter.unusedVariables false
set_option linter.unusedSimpArgs false
set_option maxRecDepth 100000
theorem vqy {o:Int} {u2 u3 u4 u5 u6 u7 u8 u9 u10 u11 u13}:∀(l acc:List tTxn.D) (i:Nat),(∀y∈l,y.2.2.2.2.1.length≤1048576∧y.2.2.2.2.2.1.length≤1048576)→acc.length+l.length≤1048576→
  ∃j:Int,∀K,vez o u2 u3 u4 u5 u6 u7 u8 u9 u10 u11 u13 l acc i K=K (j,acc++l.filter (fun x=>!(decide (x.2.2.2.1≤o))))
 |[],acc,i,_,_=>⟨_,fun K=>by simp only [vez,List.filter_nil,List.append_nil];rfl⟩
 |y::l,acc,i,hw,h=>by
  simp only [List.length_cons]at h
  have hy:=hw y (by simp)
  by_cases hs:y.2.2.2.1≤o
  ·obtain⟨j,hj⟩:=vqy (o:=o) (u2:=u2) (u3:=u3) (u4:=u4) (u5:=u5) (u6:=u6) (u7:=u7) (u8:=u8) (u9:=u9) (u10:=u10) (u11:=u11) (u13:=u13) l acc (i+1) (fun z hz=>hw z (by simp [hz])) (by omega)
   have hn:decide (y.2.2.2.1>o)=false:=decide_eq_false (Int.not_lt.2 hs)
   exact⟨j,fun K=>by simp only [vez,hn,cond_false,hj,List.filter_cons,decide_eq_true hs,Bool.not_true,Bool.false_eq_true,if_false]⟩
  ·obtain⟨j,hj⟩:=vqy (o:=o) (u2:=u2) (u3:=u3) (u4:=u4) (u5:=u5) (u6:=u6) (u7:=u7) (u8:=u8) (u9:=u9) (u10:=u10) (u11:=u11) (u13:=u13) l (acc++[y]) (i+1) (fun z hz=>hw z (by simp [hz])) (by rw [List.length_append,List.length_singleton];omega)
   have hn:decide (y.2.2.2.1>o)=true:=decide_eq_true (Int.not_le.1 hs)
   refine⟨j,fun K=>?_⟩
   simp only [vez,hn,cond_true,v8b hy.1 hy.2,vks]
   rw [if_pos (by rw [List.length_singleton];have:VE.maxLen=4294967296:=rfl;omega),hj]
   simp only [List.filter_cons,decide_eq_false hs,Bool.not_false,if_true,List.append_assoc,List.singleton_append]
def v9a (b:tBase.D)(o:Int):List tTxn.D:=b.2.1.filter (fun x=>!(decide (x.2.2.2.1≤o)))
def vth (b:tBase.D)(l:List tTxn.D):tBase.D:=(v7s b.1 (vdu b.2.2.2.1 l),(v9a b (vdu b.2.2.2.1 l),b.2.2))
theorem wib {b:tBase.D}(h:OkBs b){l:List tTxn.D}(hl:l.length≤1048576) (k):vrk b l k=k (b.2.2.2.1,b.2.2.2.2,(vth b l).1,(vth b l).2.1,b.2.2.1):=by
 rw [wjk (by have:=h.2.1.2;omega)]
 unfold v9k
 simp only [wjc h,wje hl]
 obtain⟨j,hj⟩:=vqy (o:=vdu b.2.2.2.1 l) (u2:=b.1) (u3:=b.2.1) (u4:=b.2.2.1) (u5:=b.2.2.2.1) (u6:=b.2.2.2.2) (u7:=0) (u8:=0) (u9:=b.2.2.2.1) (u10:=b.2.2.2.2) (u11:=b.1) (u13:=b.2.2.1) b.2.1 [] 0 h.2.1.1 (by simpa using h.2.1.2)
 simp only [hj,List.nil_append,wiv h.1,vth,v9a]
theorem wi9 {b:tBase.D}(h:OkBs b){l:List tTxn.D}(hl:l.length≤1048576) (k):vy8 b l k=k (b.2.2.2.1,b.2.2.2.2,(vth b l).1,(vth b l).2.1,b.2.2.1):=by
 rw [wba]
 unfold v2x
 simp only [wiu h,wie hl]
 obtain⟨s,hs,hk⟩:=wjd (l:=b.2.1) h.2.1.2 (vdu b.2.2.2.1 l)
 rw [hk]
 rcases hs with rfl|rfl<;>simp only [Sum.elim_inl,Sum.elim_inr,wio h.1,vth,v9a]
theorem v34 {b:tBase.D}(h:OkBs b)(l:List tTxn.D):OkBs (vth b l)∧cntB (vth b l)≤cntB b:=
 ⟨⟨Nat.le_trans (vyi _ _) h.1,vp0 h.2.1 _,h.2.2⟩,by
  have h1:=vl6 (fun x=>!(decide (x.2.2.2.1≤vdu b.2.2.2.1 l))) b.2.1
  have h2:=vyi b.1 (vdu b.2.2.2.1 l)
  show 4*((v7s b.1 (vdu b.2.2.2.1 l)).length:Int)+cntT (v9a b (vdu b.2.2.2.1 l))+cntT b.2.2.1≤4*(b.1.length:Int)+cntT b.2.1+cntT b.2.2.1
  unfold v9a
  omega⟩
def outB (e:tEngine.D)(c:Int):List tTxn.D:=e.2.filter (fun x=>!(x.1==c))
def vdm (e:tEngine.D)(c:Int):tEngine.D:=(vth e.1 (outB e c),outB e c)
theorem we3 (e:tEngine.D)(c:Int):(outB e c).length≤e.2.length:=List.length_filter_le _ _
theorem v8x {e:tEngine.D}{c:Int}(h:vn7 e c = -1):outB e c=e.2:=by
 rcases v42 (fun x=>x.1==c) e.2 0 with⟨_,hn⟩|⟨a,_,ha,_⟩
 ·exact vw0 hn
 ·rw [show atF (fun x:tTxn.D=>x.1==c) e.2 0=vn7 e c from rfl,h]at ha
  omega
theorem vqw {c:Int} {u2 u3 u4 u5 u6 u7}:∀(l acc:List tTxn.D) (i:Nat),acc.length+l.length≤1048576→
  ∃j:Int,∀K,vex c u2 u3 u4 u5 u6 u7 l acc i K=K (j,acc++l.filter (fun x=>!(x.1==c)))
 |[],acc,i,_=>⟨_,fun K=>by simp only [vex,List.filter_nil,List.append_nil];rfl⟩
 |y::l,acc,i,h=>by
  simp only [List.length_cons]at h
  cases hs:y.1==c with
  |true=>
   obtain⟨j,hj⟩:=vqw (c:=c) (u2:=u2) (u3:=u3) (u4:=u4) (u5:=u5) (u6:=u6) (u7:=u7) l acc (i+1) (by omega)
   have hn:(y.1 != c)=false:=by rw [bne,hs];rfl
   exact⟨j,fun K=>by simp only [vex,hn,cond_false,hj,List.filter_cons,hs,Bool.not_true,Bool.false_eq_true,if_false]⟩
  |false=>
   obtain⟨j,hj⟩:=vqw (c:=c) (u2:=u2) (u3:=u3) (u4:=u4) (u5:=u5) (u6:=u6) (u7:=u7) l (acc++[y]) (i+1) (by rw [List.length_append,List.length_singleton];omega)
   have hn:(y.1 != c)=true:=by rw [bne,hs];rfl
   refine⟨j,fun K=>?_⟩
   simp only [vex,hn,cond_true]
   rw [if_pos (by rw [List.length_singleton];have:VE.maxLen=4294967296:=rfl;omega),hj]
   simp only [List.filter_cons,hs,Bool.not_false,if_true,List.append_assoc,List.singleton_append]
theorem wil {e:tEngine.D}(h:OkE e)(c:Int) (k):vvw c e.1.2.2.2.1 e.1.2.2.2.2 e.1.1 e.1.2.1 e.1.2.2.1 e.2 k =
  k (e.1.2.2.2.1,e.1.2.2.2.2,outB e c,e.1.1,e.1.2.1,e.1.2.2.1,e.2,(vdm e c).1.1,(vdm e c).1.2.1,e.1.2.2.1):=by
 have hl:=h.2.2
 rw [wlo (by omega)]
 unfold wab
 obtain⟨j,hj⟩:=vqw (c:=c) (u2:=e.1.2.2.2.1) (u3:=e.1.2.2.2.2) (u4:=e.1.1) (u5:=e.1.2.1) (u6:=e.1.2.2.1) (u7:=e.2) e.2 [] 0 (by simpa using hl)
 have hb:OkBs (e.1.1,(e.1.2.1,(e.1.2.2.1,(e.1.2.2.2.1,e.1.2.2.2.2)))):=h.1
 have ho:(e.2.filter (fun x=>!(x.1==c))).length≤1048576:=Nat.le_trans (List.length_filter_le _ _) hl
 simp only [hj,List.nil_append,wib hb ho,outB,vdm]
theorem wiy {e:tEngine.D}(h:OkE e){c:Int}(hc:vn7 e c = -1) (k):vpt e c k=k (.inl (e.1.2.2.2.1,e.1.2.2.2.2,1,e.1.1,e.1.2.1,e.1.2.2.1,e.2)):=by
 rw [v3b]
 unfold vzp
 simp only [v7j h,v9u e c h.2.2,show atF (fun x:tTxn.D=>x.1==c) e.2 0=vn7 e c from rfl,hc,show ((-1:Int)<0) by decide,decide_true,cond_true]
theorem wdn {e:tEngine.D}(h:OkE e){c:Int}(hc:¬vn7 e c<0) (k):vpt e c k=k (.inr (e.1.2.2.2.1,e.1.2.2.2.2,outB e c,0,(vdm e c).1.1,(vdm e c).1.2.1,e.1.2.2.1)):=by
 rw [v3b]
 unfold vzp
 simp only [v7j h,v9u e c h.2.2,show atF (fun x:tTxn.D=>x.1==c) e.2 0=vn7 e c from rfl,hc,decide_false,cond_false,wil h]
theorem v7o {e:tEngine.D}(h:OkE e)(c:Int) (k):vye e c k=k (e.1.2.2.2.1,e.1.2.2.2.2,e.1.1,e.1.2.1,e.1.2.2.1,outB e c):=by
 rw [v9v]
 unfold v4q
 simp only [wh7 h]
 obtain⟨s,hs,hk⟩:=wiw (l:=e.2) h.2.2 c
 rw [hk]
 rcases hs with rfl|rfl<;>rfl
theorem wit {e:tEngine.D}(h:OkE e){c:Int}(hc:vn7 e c = -1) (k):vj9 e c k=k (e.1.2.2.2.1,e.1.2.2.2.2,1,e.1.1,e.1.2.1,e.1.2.2.1,e.2):=by
 rw [v5c]
 unfold vzt
 simp only [v7o h,v8x hc,v82 e c h.2.2,show atF (fun x:tTxn.D=>x.1==c) e.2 0=vn7 e c from rfl,hc,show ((-1:Int)<0) by decide,decide_true,cond_true]
theorem wcg {e:tEngine.D}(h:OkE e){c:Int}(hc:¬vn7 e c<0) (k):vj9 e c k=k (e.1.2.2.2.1,e.1.2.2.2.2,0,(vdm e c).1.1,(vdm e c).1.2.1,e.1.2.2.1,outB e c):=by
 have hb:OkBs (e.1.1,(e.1.2.1,(e.1.2.2.1,(e.1.2.2.2.1,e.1.2.2.2.2)))):=h.1
 have ho:(outB e c).length≤1048576:=Nat.le_trans (we3 e c) h.2.2
 rw [v5c]
 unfold vzt
 simp only [v7o h,v82 e c h.2.2,show atF (fun x:tTxn.D=>x.1==c) e.2 0=vn7 e c from rfl,hc,decide_false,cond_false,wi9 hb ho,vdm]
theorem v8j {e:tEngine.D}(h:OkE e)(c:Int):OkE (vdm e c)∧cntE (vdm e c)≤cntE e:=
 ⟨⟨(v34 h.1 _).1,vp0 h.2 _⟩,by
  have h1:=(v34 h.1 (outB e c)).2
  have h2:=vl6 (fun x=>!(x.1==c)) e.2
  show cntB (vth e.1 (outB e c))+cntT (outB e c)≤cntB e.1+cntT e.2
  unfold outB at *
  omega⟩
end
end Go.VE
/- The plain laws. -/
namespace Go.VE
set_option linter.unusedVariables false
set_option linter.unusedSimpArgs false
set_option maxRecDepth 100000
theorem vo8 (x:tEngine.D)(c:Int)(hx:tEngine.wf x)(hc:(Ty.int .i64).wf c)(k:Bool→Option Res):vzc x c k=k true:=by
 rw [wlq]
 unfold wad
 obtain⟨r0,q0,p0⟩:=v0z hx (a:=1048576) (by omega) (by omega)
 rw [q0]
 rcases p0 with p0|⟨p0,e0⟩
 ·simp [p0]
 have c0:¬r0<0:=by omega
 simp only [c0,decide_false,cond_false]
 have wx:tEngine.wt x≤1048576:=by omega
 have hE0:=wj0 wx
 have hcx:=wiq x
 have hpx:=v3e x
 have hM0:=fun a0 a1 k=>vmx hE0 (c:=1) (by omega) (by omega) a0 a1 k
 have n0:decide (1+cntE x<0)=false:=decide_eq_false (by omega)
 rcases v1u x c with hp|⟨a,t,hp,_⟩
 ·have hH:∀z1 z2 k,vm1 (((vlq 1 x).1.1,((vlq 1 x).1.2.1,((vlq 1 x).1.2.2.1,(z1,z2)))),(vlq 1 x).2) 1 k=k (1+cntE x):=
   fun z1 z2 k=>vmv hE0 (c:=1) (by omega) (by omega) (z1,z2) k
  simp only [vuk wx,wiy hE0 hp,wit hE0 hp,vks,vun wx,beq_self_eq_true,bne_self_eq_false,Bool.not_true,Bool.not_false,cond_true,cond_false,vbf,hM0,n0,vbr,hH,vb9,Sum.elim_inl,Sum.elim_inr]
 ·have hn:¬vn7 x c<0:=by rw [hp];omega
  obtain⟨hok,hcnt⟩:=v8j hE0 c
  have hpe:=v3e (vdm x c)
  have hE:∀k,vd1 (((vdm x c).1.1,((vdm x c).1.2.1,(x.1.2.2.1,(x.1.2.2.2.1,x.1.2.2.2.2)))),outB x c) (((vdm x c).1.1,((vdm x c).1.2.1,(x.1.2.2.1,(x.1.2.2.2.1,x.1.2.2.2.2)))),outB x c) k=k true:=fun k=>v2e hok k
  generalize hg:cntE (vdm x c)=g at *
  generalize hm:vlq 1 (vdm x c)=m at *
  have hM1:∀a0 a1 k,vmi a0 a1 1 (vdm x c).1.1 (vdm x c).1.2.1 x.1.2.2.1 (outB x c) k=k (1+g,m.1.1,m.1.2.1,m.1.2.2.1,m.2):=fun a0 a1 k=>by
   have:=vmx hok (c:=1) (by omega) (by rw [hg];omega) a0 a1 k
   rw [hg,hm]at this
   exact this
  have hH:∀z1 z2 k,vm1 ((m.1.1,(m.1.2.1,(m.1.2.2.1,(z1,z2)))),m.2) 1 k=k (1+g):=fun z1 z2 k=>by
   have:=vmv hok (c:=1) (by omega) (by rw [hg];omega) (z1,z2) k
   rw [hg,hm]at this
   exact this
  have n1:decide (1+g<0)=false:=decide_eq_false (by omega)
  simp only [vuk wx,wdn hE0 hn,wcg hE0 hn,vks,hE,vun wx,beq_self_eq_true,bne_self_eq_false,Bool.not_true,Bool.not_false,cond_true,cond_false,vbf,hM0,n0,vbr,hM1,hH,n1,vb9,Sum.elim_inl,Sum.elim_inr]
end Go.VE
