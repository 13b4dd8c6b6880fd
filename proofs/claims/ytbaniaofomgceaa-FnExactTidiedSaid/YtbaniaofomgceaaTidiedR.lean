/- The plain laws behind FnExactTidied. -/
import Derived.Test.YtbaniaofomgceaaTidiedL
import Derived.Sort.Walk0
/- Plain laws: one of a list that passes a test;what is seen;the oldest. -/
namespace Go.VE
noncomputable section
set_option linter.unusedVariables false
set_option linter.unusedSimpArgs false
set_option maxRecDepth 100000
def zV:tVersion.D:=Ty.zero tVersion
def vdm (u0:List tVersion.D)(key:ByteArray)(snap:Int):List tVersion.D→Int→Nat→Int
 |[],s,_=>s
 |y::l,s,i=>bif vbh y.1 key&&(decide (y.2.2.2≤snap)&&(decide (s<0)||decide (y.2.2.2>(rd zV u0 s).2.2.2)))then vdm u0 key snap l (i:Int) (i+1)else vdm u0 key snap l s (i+1)
def vhs (xs:List tVersion.D)(key:ByteArray)(snap:Int):Int:=vdm xs key snap xs (-1) 0
theorem vmw {u0 u1 u2} {u4}:∀(l:List tVersion.D) (s:Int) (i:Nat),u0.drop i=l→(s<0∨0≤s∧s<(u0.length:Int))→
  ∃j:Int,(∀k,vdx u0 u1 u2 u4 l s i k=k (vdm u0 u1 u2 l s i,j))∧(vdm u0 u1 u2 l s i<0∨0≤vdm u0 u1 u2 l s i∧vdm u0 u1 u2 l s i<(u0.length:Int))
 |[],s,i,_,hs=>⟨_,fun k=>rfl,hs⟩
 |y::l,s,i,h,hs=>by
  have hlt:=vcu h
  obtain⟨j1,hj1,b1⟩:=vmw (u0:=u0) (u1:=u1) (u2:=u2) (u4:=u4) l s (i+1) (vba h) hs
  obtain⟨j2,hj2,b2⟩:=vmw (u0:=u0) (u1:=u1) (u2:=u2) (u4:=u4) l (i:Int) (i+1) (vba h) (.inr (by omega))
  have hz:(Ty.zero tVersion)=zV:=rfl
  simp only [vdx,hj1,hj2,vdm,hz]
  cases vbh y.1 u1
  ·exact⟨j1,fun k=>rfl,b1⟩
  ·cases decide (y.2.2.2≤u2)
   ·exact⟨j1,fun k=>rfl,b1⟩
   ·by_cases c:s<0
    ·simp only [c,decide_true,cond_true,Bool.true_or,Bool.and_self];exact⟨j2,fun k=>rfl,b2⟩
    ·simp only [c,decide_false,cond_true,cond_false,Bool.false_or,Bool.true_and]
     simp only [if_pos (show 0≤s∧s<(u0.length:Int) by omega)]
     cases decide (y.2.2.2>(rd zV u0 s).2.2.2)
     ·exact⟨j1,fun k=>rfl,b1⟩
     ·exact⟨j2,fun k=>rfl,b2⟩
theorem wel {xs:List tVersion.D}(hl:xs.length≤1048576) (key) (snap) (k):vre xs key snap k=k (vhs xs key snap):=by
 rw [wfl (by omega)]
 unfold v6d vhs
 obtain⟨j,hj,_⟩:=vmw (u0:=xs) (u1:=key) (u2:=snap) (u4:=xs) xs (-1) 0 rfl (.inl (by omega))
 rw [hj]
theorem vnc {u0 u1 u2}  : ∀(l:List tVersion.D) (s:Int) (i:Nat),u0.drop i=l→(s<0∨0≤s∧s<(u0.length:Int))→
  ∃j:Int,(∀k,vd0 u0 u1 u2  l s i k=k (vdm u0 u1 u2 l s i,j))∧(vdm u0 u1 u2 l s i<0∨0≤vdm u0 u1 u2 l s i∧vdm u0 u1 u2 l s i<(u0.length:Int))
 |[],s,i,_,hs=>⟨_,fun k=>rfl,hs⟩
 |y::l,s,i,h,hs=>by
  have hlt:=vcu h
  obtain⟨j1,hj1,b1⟩:=vnc (u0:=u0) (u1:=u1) (u2:=u2)  l s (i+1) (vba h) hs
  obtain⟨j2,hj2,b2⟩:=vnc (u0:=u0) (u1:=u1) (u2:=u2)  l (i:Int) (i+1) (vba h) (.inr (by omega))
  have hz:(Ty.zero tVersion)=zV:=rfl
  simp only [vd0,hj1,hj2,vdm,hz]
  cases vbh y.1 u1
  ·exact⟨j1,fun k=>rfl,b1⟩
  ·cases decide (y.2.2.2≤u2)
   ·exact⟨j1,fun k=>rfl,b1⟩
   ·by_cases c:s<0
    ·simp only [c,decide_true,cond_true,Bool.true_or,Bool.and_self];exact⟨j2,fun k=>rfl,b2⟩
    ·simp only [c,decide_false,cond_true,cond_false,Bool.false_or,Bool.true_and]
     simp only [if_pos (show 0≤s∧s<(u0.length:Int) by omega)]
     cases decide (y.2.2.2>(rd zV u0 s).2.2.2)
     ·exact⟨j1,fun k=>rfl,b1⟩
     ·exact⟨j2,fun k=>rfl,b2⟩
theorem wea {xs:List tVersion.D}(hl:xs.length≤1048576) (key) (snap) (k):vra xs key snap k=k (vhs xs key snap):=by
 rw [wfb (by omega)]
 unfold v5f vhs
 obtain⟨j,hj,_⟩:=vnc (u0:=xs) (u1:=key) (u2:=snap)  xs (-1) 0 rfl (.inl (by omega))
 rw [hj]
def vdn (n:Int)(l:List tTxn.D):Int:=l.foldl (fun s y=>if y.2.2.1<s then y.2.2.1 else s) n
theorem vst {u1}:∀(l:List tTxn.D) (s:Int) (i:Nat),∃j:Int,∀k,vk9 u1 l s i k=k (vdn s l,j)
 |[],s,i=>⟨_,fun k=>rfl⟩
 |y::l,s,i=>vst l _ (i+1)
theorem vmy {u0}:∀(l:List tTxn.D) (s:Int) (i:Nat),∃j:Int,∀k,vhl u0 l s i k=k (vdn s l,j)
 |[],s,i=>⟨_,fun k=>rfl⟩
 |y::l,s,i=>by
  simp only [vhl,vdn,List.foldl_cons]
  by_cases c:y.2.2.1<s
  ·simp only [c,decide_true,cond_true,if_true];exact vmy l _ (i+1)
  ·simp only [c,decide_false,cond_false,if_false];exact vmy l _ (i+1)
theorem wd5 {b:tBase.D}{l:List tTxn.D}(hl:l.length≤1048576) (k):vr6 b l k=k (vdn b.2.2.2.1 l):=by
 rw [we6 (by omega)]
 obtain⟨j,hj⟩:=vst (u1:=l) l b.2.2.2.1 0
 unfold v54
 rw [hj]
theorem wd6 {b:tBase.D}{l:List tTxn.D}(hl:l.length≤1048576) (k):vp8 b l k=k (vdn b.2.2.2.1 l):=by
 rw [we5 (by omega)]
 obtain⟨j,hj⟩:=vmy (u0:=l) l b.2.2.2.1 0
 unfold v7u
 rw [hj]
end
end Go.VE
/- Plain laws: where a name or an Id stands;a transaction's text. -/
namespace Go.VE
noncomputable section
set_option linter.unusedVariables false
set_option linter.unusedSimpArgs false
set_option maxRecDepth 100000
def atF (p:tTxn.D→Bool):List tTxn.D→Nat→Int
 |[],_=>-1
 |y::l,i=>bif p y then(i:Int)else atF p l (i+1)
end
end Go.VE
/- Plain laws of the draws: each gives,whatever the bytes. -/
namespace Go.VE
noncomputable section
set_option linter.unusedVariables false
set_option linter.unusedSimpArgs false
set_option maxRecDepth 100000
def Gives {α:Type}(F:(α→Option Res)→Option Res)(Q:α→Prop):Prop:=∃v,Q v∧∀k,F k=k v
theorem vic {α:Type}{v:α}{Q:α→Prop}(h:Q v):Gives (fun k=>k v) Q:=⟨v,h,fun _=>rfl⟩
theorem Gives.bind {α β:Type}{F:(β→Option Res)→Option Res}{R:β→Prop}(hF:Gives F R){H:β→(α→Option Res)→Option Res}{Q:α→Prop}(hH:∀v,R v→Gives (H v) Q):Gives (fun k=>F fun v=>H v k) Q:=by
 obtain⟨v,h1,h2⟩:=hF
 obtain⟨y,h3,h4⟩:=hH v h1
 exact⟨y,h3,fun k=>(h2 _).trans (h4 k)⟩
theorem vqn {α:Type}{c:Bool}{F G:(α→Option Res)→Option Res}{Q:α→Prop}(hF:c=true→Gives F Q)(hG:c=false→Gives G Q):Gives (fun k=>bif c then F k else G k) Q:=by
 cases c
 ·exact hG rfl
 ·exact hF rfl
theorem vxz {α:Type}{c:Prop} [Decidable c]{F:(α→Option Res)→Option Res}{Q:α→Prop}(hc:c)(hF:Gives F Q):Gives (fun k=>if c then F k else none) Q:=by
 simp only [hc,if_true];exact hF
theorem Gives.mono {α:Type}{F:(α→Option Res)→Option Res}{Q R:α→Prop}(h:Gives F Q)(hq:∀v,Q v→R v):Gives F R:=by
 obtain⟨v,h1,h2⟩:=h
 exact⟨v,hq v h1,h2⟩
theorem vtd {β γ:Type}{b:β→(β⊕γ→Option Res)→Option Res}{x:β}{n:Nat}{Q:γ→Prop}(h:Gives (b x) (fun r=>(∀y,r = .inl y→Gives (vac b n y) Q)∧∀z,r = .inr z→Q z)):Gives (vac b (n+1) x) Q:=by
 obtain⟨v,h1,h2⟩:=h
 cases v with
 |inl y=>
  obtain⟨w,h3,h4⟩:=h1.1 y rfl
  exact⟨w,h3,fun k=>by rw [vac,h2];exact h4 k⟩
 |inr z=>exact⟨z,h1.2 z rfl,fun k=>by rw [vac,h2];rfl⟩
theorem wgv {β γ:Type}{Q:γ→Prop}{G:β→Prop}{y:β}(h:G y):(∀x,(Sum.inl y:β⊕γ) = .inl x→G x)∧∀z,(Sum.inl y:β⊕γ) = .inr z→Q z:=⟨fun _ e=>by cases e;exact h,fun _ e=>(nomatch e)⟩
theorem wbx {β γ:Type}{Q:γ→Prop}{G:β→Prop}{z:γ}(h:Q z):(∀x,(Sum.inr z:β⊕γ) = .inl x→G x)∧∀w,(Sum.inr z:β⊕γ) = .inr w→Q w:=⟨fun _ e=>(nomatch e),fun _ e=>by cases e;exact h⟩
end
end Go.VE
/- Plain laws of the marks: what is marked in place is held. -/
namespace Go.VE
noncomputable section
set_option linter.unusedVariables false
set_option linter.unusedSimpArgs false
set_option maxRecDepth 100000
theorem vli (n:Int):(vks [n]).size=1:=rfl
theorem vvg:∀(m:Nat) (n:Int) (s:ByteArray) (q:Nat),n≤m→m<q→s.size+m≤100000000→Gives (vac vk4 q (n,s)) (fun z=>z.2.size≤s.size+m):=by
 intro m
 induction m with
 |zero=>
  intro n s q hn hq hs
  obtain⟨q,rfl⟩:∃r,q=r+1:=⟨q-1,by omega⟩
  apply vtd
  unfold vk4
  exact vqn (fun c=>by have c:=of_decide_eq_true c;dsimp only at c;omega) (fun _=>vic (wbx (by dsimp only;omega)))
 |succ m ih=>
  intro n s q hn hq hs
  obtain⟨q,rfl⟩:∃r,q=r+1:=⟨q-1,by omega⟩
  apply vtd
  unfold vk4
  refine vqn (fun c=>vxz ?_ (vic (wgv ?_))) (fun _=>vic (wbx (by dsimp only;omega)))
  ·rw [vli];dsimp only;omega
  ·have c:=of_decide_eq_true c
   dsimp only at c
   have e:n.tdiv 10=n / 10:=Int.tdiv_eq_ediv_of_nonneg (by omega)
   dsimp only
   rw [e,vbk (by omega) (by omega)]
   refine(ih (n / 10) _ q (by omega) (by omega) (by rw [ByteArray.size_append,vli];omega)).mono (fun z hz=>?_)
   rw [ByteArray.size_append,vli]at hz
   omega
theorem v22 {n:Int}(h:n≤10000000):Gives (vbv n) (fun _=>True):=by
 rw [v6j]
 unfold v0p
 refine vqn (fun _=>vic trivial) (fun _=>(vvg 10000000 n _ Fuel (by omega) (by have:=vd6;omega) (by decide)).bind (fun z hz=>vxz ?_ (vic trivial)))
 have:(⟨#[109]⟩:ByteArray).size=1:=rfl
 have:(⟨#[]⟩:ByteArray).size=0:=rfl
 omega
open Classical in
def vhx (n:Int):ByteArray:=if h:∃v,∀k,vbv n k=k v then Classical.choose h else⟨#[]⟩
theorem va8 {n:Int}(h:n≤10000000) (k):vbv n k=k (vhx n):=by
 obtain⟨v,_,hv⟩:=v22 h
 have h1:∃v,∀k,vbv n k=k v:=⟨v,hv⟩
 unfold vhx
 rw [dif_pos h1]
 exact Classical.choose_spec h1 k
theorem vvy {α:Type}(pre:List α)(y v:α)(l:List α):(pre++y::l).set pre.length v=pre++v::l:=by simp
theorem vop {α:Type}(pre:List α)(y d:α)(l:List α):(pre++y::l).getD pre.length d=y:=by simp [List.getD]
def vmn:Int→List tRange.D→List tRange.D
 |_,[]=>[]
 |c,y::l=>(vhx c,vhx (c+1))::vmn (c+2) l
theorem viw:∀(l pre:List tRange.D) (c:Int) (q:Nat),0≤c→c+2*l.length≤9000000→pre.length+l.length≤1048576→l.length<q→
  ∃j:Int,∀k,vac vle q (c,(pre.length:Int),pre++l) k=k (c+2*l.length,j,pre++vmn c l)
 |[],pre,c,q,h0,hc,hl,hq=>by
  obtain⟨q,rfl⟩:∃r,q=r+1:=⟨q-1,by omega⟩
  refine⟨pre.length,fun k=>?_⟩
  simp only [vac,vle,List.append_nil,Int.lt_irrefl,decide_false,cond_false,Sum.elim_inr,List.length_nil,vmn]
  simp
 |y::l,pre,c,q,h0,hc,hl,hq=>by
  obtain⟨q,rfl⟩:∃r,q=r+1:=⟨q-1,by omega⟩
  simp only [List.length_cons]at hc hl hq
  obtain⟨j,hj⟩:=viw l (pre++[(vhx c,vhx (c+1))]) (c+2) q (by omega) (by omega) (by rw [List.length_append,List.length_singleton];omega) (by omega)
  refine⟨j,fun k=>?_⟩
  have hlt:(pre.length:Int)<((pre++y::l).length:Int):=by rw [List.length_append,List.length_cons];omega
  have hlt2:∀v:tRange.D,(pre.length:Int)<((pre++v::l).length:Int):=fun v=>by rw [List.length_append,List.length_cons];omega
  have w1:IntKind.wrap .i64 (c+1)=c+1:=vbk (by omega) (by omega)
  have w2:IntKind.wrap .i64 (c+1+1)=c+2:=by rw [vbk (by omega) (by omega)];omega
  have w3:IntKind.wrap .i64 ((pre.length:Int)+1)=((pre.length+1:Nat):Int):=vb2 (by omega)
  have hp:(0:Int)≤(pre.length:Int):=Int.natCast_nonneg _
  have hj':=hj k
  rw [List.length_append,List.length_singleton,List.append_assoc,List.singleton_append,List.append_assoc,List.singleton_append]at hj'
  simp only [vac,vle,hlt,decide_true,cond_true,va8 (show c≤10000000 by omega),w1,va8 (show c+1≤10000000 by omega),Int.toNat_natCast,vvy,vop,hlt2,hp,and_self,if_true,w2,w3,Sum.elim_inl]
  rw [hj']
  simp only [vmn,List.length_cons]
  congr 2
  push_cast
  omega
def vnb:Int→List tWrite.D→List tWrite.D
 |_,[]=>[]
 |c,y::l=>(vhx c,(vhx (c+1),((c+2).tmod 3==0)))::vnb (c+3) l
theorem vin:∀(l pre:List tWrite.D) (c:Int) (q:Nat),0≤c→c+3*l.length≤9000000→pre.length+l.length≤1048576→l.length<q→
  ∃j:Int,∀k,vac vk8 q (c,(pre.length:Int),pre++l) k=k (c+3*l.length,j,pre++vnb c l)
 |[],pre,c,q,h0,hc,hl,hq=>by
  obtain⟨q,rfl⟩:∃r,q=r+1:=⟨q-1,by omega⟩
  refine⟨pre.length,fun k=>?_⟩
  simp only [vac,vk8,List.append_nil,Int.lt_irrefl,decide_false,cond_false,Sum.elim_inr,List.length_nil,vnb]
  simp
 |y::l,pre,c,q,h0,hc,hl,hq=>by
  obtain⟨q,rfl⟩:∃r,q=r+1:=⟨q-1,by omega⟩
  simp only [List.length_cons]at hc hl hq
  obtain⟨j,hj⟩:=vin l (pre++[(vhx c,(vhx (c+1),((c+2).tmod 3==0)))]) (c+3) q (by omega) (by omega) (by rw [List.length_append,List.length_singleton];omega) (by omega)
  refine⟨j,fun k=>?_⟩
  have hlt:(pre.length:Int)<((pre++y::l).length:Int):=by rw [List.length_append,List.length_cons];omega
  have hlt2:∀v:tWrite.D,(pre.length:Int)<((pre++v::l).length:Int):=fun v=>by rw [List.length_append,List.length_cons];omega
  have w1:IntKind.wrap .i64 (c+1)=c+1:=vbk (by omega) (by omega)
  have w2:IntKind.wrap .i64 (c+1+1)=c+2:=by rw [vbk (by omega) (by omega)];omega
  have w4:IntKind.wrap .i64 (c+2+1)=c+3:=by rw [vbk (by omega) (by omega)];omega
  have w3:IntKind.wrap .i64 ((pre.length:Int)+1)=((pre.length+1:Nat):Int):=vb2 (by omega)
  have hp:(0:Int)≤(pre.length:Int):=Int.natCast_nonneg _
  have hj':=hj k
  rw [List.length_append,List.length_singleton,List.append_assoc,List.singleton_append,List.append_assoc,List.singleton_append]at hj'
  simp only [vac,vk8,hlt,decide_true,cond_true,va8 (show c≤10000000 by omega),w1,va8 (show c+1≤10000000 by omega),Int.toNat_natCast,vvy,vop,hlt2,hp,and_self,if_true,w2,w3,w4,Sum.elim_inl]
  rw [hj']
  simp only [vnb,List.length_cons]
  congr 2
  push_cast
  omega
theorem vi0 {u0 u2}:∀(l:List tRange.D) (c:Int) (i:Nat),0≤c→c+2*l.length≤9000000→∃j:Int,∀k,vg2 u0 u2 (vmn c l) c i k=k (.inr (c+2*l.length,j))
 |[],c,i,_,_=>⟨_,fun k=>by simp only [vmn,vg2,List.length_nil];simp;rfl⟩
 |y::l,c,i,h0,hc=>by
  simp only [List.length_cons]at hc
  obtain⟨j,hj⟩:=vi0 (u0:=u0) (u2:=u2) l (c+2) (i+1) (by omega) (by omega)
  have w1:IntKind.wrap .i64 (c+1)=c+1:=vbk (by omega) (by omega)
  have w2:IntKind.wrap .i64 (c+1+1)=c+2:=by rw [vbk (by omega) (by omega)];omega
  refine⟨j,fun k=>?_⟩
  simp only [vmn,vg2,va8 (show c≤10000000 by omega),w1,va8 (show c+1≤10000000 by omega),vck,Bool.not_true,cond_false,w2,hj,List.length_cons]
  congr 3
  push_cast
  omega
theorem vi7 {u0 u2}:∀(l:List tWrite.D) (c:Int) (i:Nat),0≤c→c+3*l.length≤9000000→∃j:Int,∀k,vgx u0 u2 (vnb c l) c i k=k (.inr (c+3*l.length,j))
 |[],c,i,_,_=>⟨_,fun k=>by simp only [vnb,vgx,List.length_nil];simp;rfl⟩
 |y::l,c,i,h0,hc=>by
  simp only [List.length_cons]at hc
  obtain⟨j,hj⟩:=vi7 (u0:=u0) (u2:=u2) l (c+3) (i+1) (by omega) (by omega)
  have w1:IntKind.wrap .i64 (c+1)=c+1:=vbk (by omega) (by omega)
  have w2:IntKind.wrap .i64 (c+1+1)=c+2:=by rw [vbk (by omega) (by omega)];omega
  have w4:IntKind.wrap .i64 (c+2+1)=c+3:=by rw [vbk (by omega) (by omega)];omega
  refine⟨j,fun k=>?_⟩
  simp only [vnb,vgx,va8 (show c≤10000000 by omega),w1,va8 (show c+1≤10000000 by omega),vck,Bool.not_true,cond_false,w2,w4,hj,List.length_cons,beq_self_eq_true]
  congr 3
  push_cast
  omega
end
end Go.VE
/- Plain laws: a range is read. -/
namespace Go.VE
noncomputable section
set_option linter.unusedVariables false
set_option linter.unusedSimpArgs false
set_option maxRecDepth 100000
theorem v7i {t:tTxn.D}(hr:t.2.2.2.2.1.length≤1048576)(hw:t.2.2.2.2.2.1.length≤1048576) (k):vnl t k=k (t.1,t.2.1,t.2.2.1,t.2.2.2.1,t.2.2.2.2.2.2.1,t.2.2.2.2.2.2.2,t.2.2.2.2.1,t.2.2.2.2.2.1):=by
 rw [v7j]
 unfold v1m
 rw [if_pos (by simp only [List.length_nil,VE.maxLen];omega),if_pos (by simp only [List.length_nil,VE.maxLen];omega)]
 rfl
theorem wdh {t:tTxn.D}(hr:t.2.2.2.2.1.length≤1048576)(hw:t.2.2.2.2.2.1.length≤1048576) (k):vtn t k=k (t.1,t.2.1,t.2.2.1,t.2.2.2.1,t.2.2.2.2.2.2.1,t.2.2.2.2.2.2.2,t.2.2.2.2.1,t.2.2.2.2.2.1):=by
 rw [v5h]
 unfold v0y
 rw [if_pos (by simp only [VE.maxLen];omega),if_pos (by simp only [VE.maxLen];omega)]
end
end Go.VE
/- Plain laws: a transaction's marks. -/
namespace Go.VE
noncomputable section
set_option linter.unusedVariables false
set_option linter.unusedSimpArgs false
set_option maxRecDepth 100000
theorem vny:∀(c:Int) (l:List tRange.D),(vmn c l).length=l.length
 |_,[]=>rfl
 |c,y::l=>by simp [vmn,vny (c+2) l]
theorem vnp:∀(c:Int) (l:List tWrite.D),(vnb c l).length=l.length
 |_,[]=>rfl
 |c,y::l=>by simp [vnb,vnp (c+3) l]
end
end Go.VE
/- Plain laws: keys in order;what a scan sees. -/
namespace Go.VE
noncomputable section
set_option linter.unusedVariables false
set_option linter.unusedSimpArgs false
set_option maxRecDepth 100000
def ddT (p:ByteArray):List ByteArray→List ByteArray
 |[]=>[]
 |y::l=>bif vbh y p then ddT y l else y::ddT y l
def dd:List ByteArray→List ByteArray
 |[]=>[]
 |a::l=>a::ddT a l
end
end Go.VE
/- Plain laws: marks of lists of transactions,of bases and engines that own all their slices. -/
namespace Go.VE
noncomputable section
set_option linter.unusedVariables false
set_option linter.unusedSimpArgs false
set_option maxRecDepth 100000
theorem vob {l:List tRange.D}(hl:l.length≤1048576){c:Int}(h0:0≤c)(hc:c+2*l.length≤9000000) (k):vxp c l k=k (c+2*l.length,vmn c l):=by
 rw [v7m]
 unfold v04
 obtain⟨j,hj⟩:=viw l [] c Fuel h0 hc (by simpa using hl) (by have:=vd6;omega)
 simp only [List.length_nil,List.nil_append]at hj
 rw [show ((0:Int))=((0:Nat):Int)from rfl,hj]
theorem vn6 {l:List tWrite.D}(hl:l.length≤1048576){c:Int}(h0:0≤c)(hc:c+3*l.length≤9000000) (k):vv3 c l k=k (c+3*l.length,vnb c l):=by
 rw [v7e]
 unfold v2g
 obtain⟨j,hj⟩:=vin l [] c Fuel h0 hc (by simpa using hl) (by have:=vd6;omega)
 simp only [List.length_nil,List.nil_append]at hj
 rw [show ((0:Int))=((0:Nat):Int)from rfl,hj]
def vmr (t:tTxn.D):Int:=6+2*(t.2.2.2.2.1.length:Int)+3*(t.2.2.2.2.2.1.length:Int)
def cntT:List tTxn.D→Int
 |[]=>0
 |y::l=>vmr y+cntT l
def v17 (c:Int)(t:tTxn.D):tTxn.D:=
 (c,(c+1,(c+2,(c+3,(vmn (c+4) t.2.2.2.2.1,(vnb (c+4+2*(t.2.2.2.2.1.length:Int)) t.2.2.2.2.2.1,
  ((c+4+2*(t.2.2.2.2.1.length:Int)+3*(t.2.2.2.2.2.1.length:Int)).tmod 3==0,vhx (c+4+2*(t.2.2.2.2.1.length:Int)+3*(t.2.2.2.2.2.1.length:Int)+1))))))))
def vlh:Int→List tTxn.D→List tTxn.D
 |_,[]=>[]
 |c,y::l=>v17 c y::vlh (c+vmr y) l
theorem vrh (t:tTxn.D):6≤vmr t:=by unfold vmr;omega
theorem vdo:∀l:List tTxn.D,0≤cntT l
 |[]=>Int.le_refl _
 |y::l=>by have:=vrh y;have:=vdo l;simp only [cntT];omega
theorem vn3:∀(c:Int) (l:List tTxn.D),(vlh c l).length=l.length
 |_,[]=>rfl
 |c,y::l=>by simp [vlh,vn3 (c+vmr y) l]
theorem v63:∀(l:List tTxn.D),cntT l≤6*(l.length+wtL tTxn l:Nat)
 |[]=>by simp [cntT,wtL]
 |y::l=>by
  have h:=v63 l
  have hw:=v6t y
  have h1:(Ty.slice tRange).wt y.2.2.2.2.1=y.2.2.2.2.1.length+wtL tRange y.2.2.2.2.1:=Ty.wt_slice _ _
  have h2:(Ty.slice tWrite).wt y.2.2.2.2.2.1=y.2.2.2.2.2.1.length+wtL tWrite y.2.2.2.2.2.1:=Ty.wt_slice _ _
  simp only [cntT,vmr,List.length_cons,wtL]
  push_cast at h ⊢
  omega
theorem vlv:∀(l pre:List tTxn.D) (c:Int) (q:Nat),(∀y∈l,y.2.2.2.2.1.length≤1048576∧y.2.2.2.2.2.1.length≤1048576)→0≤c→c+cntT l≤9000000→pre.length+l.length≤1048576→l.length<q→
  ∃j:Int,∀k,vac via q (c,(pre.length:Int),pre++l) k=k (c+cntT l,j,pre++vlh c l)
 |[],pre,c,q,hw,h0,hc,hl,hq=>by
  obtain⟨q,rfl⟩:∃r,q=r+1:=⟨q-1,by omega⟩
  refine⟨pre.length,fun k=>?_⟩
  simp only [vac,via,List.append_nil,Int.lt_irrefl,decide_false,cond_false,Sum.elim_inr,vlh,cntT]
  simp
 |y::l,pre,c,q,hw,h0,hc,hl,hq=>by
  obtain⟨q,rfl⟩:∃r,q=r+1:=⟨q-1,by omega⟩
  simp only [List.length_cons]at hl hq
  obtain⟨hy1,hy2⟩:=hw y (by simp)
  have hp1:=vdo l
  simp only [cntT]at hc
  obtain⟨j,hj⟩:=vlv l (pre++[v17 c y]) (c+vmr y) q (fun z hz=>hw z (by simp [hz])) (by have:=vrh y;omega) (by omega) (by rw [List.length_append,List.length_singleton];omega) (by omega)
  refine⟨j,fun k=>?_⟩
  have hlt:∀v:tTxn.D,(pre.length:Int)<((pre++v::l).length:Int):=fun v=>by rw [List.length_append,List.length_cons];omega
  have hcy:vmr y=6+2*(y.2.2.2.2.1.length:Int)+3*(y.2.2.2.2.2.1.length:Int):=rfl
  have w1:IntKind.wrap .i64 (c+1)=c+1:=vbk (by omega) (by omega)
  have w2:IntKind.wrap .i64 (c+1+1)=c+2:=by rw [vbk (by omega) (by omega)];omega
  have w3:IntKind.wrap .i64 (c+2+1)=c+3:=by rw [vbk (by omega) (by omega)];omega
  have w4:IntKind.wrap .i64 (c+3+1)=c+4:=by rw [vbk (by omega) (by omega)];omega
  have w5:IntKind.wrap .i64 (c+4+2*(y.2.2.2.2.1.length:Int)+3*(y.2.2.2.2.2.1.length:Int)+1)=c+4+2*(y.2.2.2.2.1.length:Int)+3*(y.2.2.2.2.2.1.length:Int)+1:=vbk (by omega) (by omega)
  have w6:IntKind.wrap .i64 (c+4+2*(y.2.2.2.2.1.length:Int)+3*(y.2.2.2.2.2.1.length:Int)+1+1)=c+vmr y:=by rw [vbk (by omega) (by omega)];omega
  have w7:IntKind.wrap .i64 ((pre.length:Int)+1)=((pre.length+1:Nat):Int):=vb2 (by omega)
  have hp:(0:Int)≤(pre.length:Int):=Int.natCast_nonneg _
  have hj':=hj k
  rw [List.length_append,List.length_singleton,List.append_assoc,List.singleton_append,List.append_assoc,List.singleton_append]at hj'
  simp only [vac,via,hlt,decide_true,cond_true,hp,and_self,if_true,Int.toNat_natCast,vvy,vop,vda,vc7,vdd,vdf,
   vdg,vc9,vc8,w1,w2,w3,w4,w7,
   vob hy1 (show 0≤c+4 by omega) (show c+4+2*(y.2.2.2.2.1.length:Int)≤9000000 by omega),
   vn6 hy2 (show 0≤c+4+2*(y.2.2.2.2.1.length:Int) by omega) (show c+4+2*(y.2.2.2.2.1.length:Int)+3*(y.2.2.2.2.2.1.length:Int)≤9000000 by omega),w5,
   va8 (show c+4+2*(y.2.2.2.2.1.length:Int)+3*(y.2.2.2.2.2.1.length:Int)+1≤10000000 by omega),w6,Sum.elim_inl]
  refine Eq.trans (b:=vac via q (c+vmr y,((pre.length+1:Nat):Int),pre++v17 c y::l) k) rfl ?_
  rw [hj']
  simp only [vlh,cntT]
  congr 2
  omega
theorem vfj {l:List tTxn.D}(hw:∀y∈l,y.2.2.2.2.1.length≤1048576∧y.2.2.2.2.2.1.length≤1048576)(hl:l.length≤1048576){c:Int}(h0:0≤c)(hc:c+cntT l≤9000000) (k) :
  vlo c l k=k (c+cntT l,vlh c l):=by
 rw [v4x]
 unfold v0z
 obtain⟨j,hj⟩:=vlv l [] c Fuel hw h0 hc (by simpa using hl) (by have:=vd6;omega)
 simp only [List.length_nil,List.nil_append]at hj
 rw [show ((0:Int))=((0:Nat):Int)from rfl,hj]
end
end Go.VE
/- Plain laws: what is marked in versions,transactions,bases and engines is held. -/
namespace Go.VE
noncomputable section
set_option linter.unusedVariables false
set_option linter.unusedSimpArgs false
set_option maxRecDepth 100000
def vmv:Int→List tVersion.D→List tVersion.D
 |_,[]=>[]
 |c,y::l=>(vhx c,(vhx (c+1),((c+2).tmod 3==0,c+3)))::vmv (c+4) l
theorem vn4:∀(c:Int) (l:List tVersion.D),(vmv c l).length=l.length
 |_,[]=>rfl
 |c,y::l=>by simp [vmv,vn4 (c+4) l]
theorem vd1:∀(l pre:List tVersion.D) (c:Int) (q:Nat),0≤c→c+4*l.length≤9000000→pre.length+l.length≤1048576→l.length<q→
  ∃j:Int,∀k,vac vhz q (c,(pre.length:Int),pre++l) k=k (c+4*l.length,j,pre++vmv c l)
 |[],pre,c,q,h0,hc,hl,hq=>by
  obtain⟨q,rfl⟩:∃r,q=r+1:=⟨q-1,by omega⟩
  refine⟨pre.length,fun k=>?_⟩
  simp only [vac,vhz,List.append_nil,Int.lt_irrefl,decide_false,cond_false,Sum.elim_inr,List.length_nil,vmv]
  simp
 |y::l,pre,c,q,h0,hc,hl,hq=>by
  obtain⟨q,rfl⟩:∃r,q=r+1:=⟨q-1,by omega⟩
  simp only [List.length_cons]at hc hl hq
  obtain⟨j,hj⟩:=vd1 l (pre++[(vhx c,(vhx (c+1),((c+2).tmod 3==0,c+3)))]) (c+4) q (by omega) (by omega) (by rw [List.length_append,List.length_singleton];omega) (by omega)
  refine⟨j,fun k=>?_⟩
  have hlt:∀v:tVersion.D,(pre.length:Int)<((pre++v::l).length:Int):=fun v=>by rw [List.length_append,List.length_cons];omega
  have w1:IntKind.wrap .i64 (c+1)=c+1:=vbk (by omega) (by omega)
  have w2:IntKind.wrap .i64 (c+1+1)=c+2:=by rw [vbk (by omega) (by omega)];omega
  have w3:IntKind.wrap .i64 (c+2+1)=c+3:=by rw [vbk (by omega) (by omega)];omega
  have w4:IntKind.wrap .i64 (c+3+1)=c+4:=by rw [vbk (by omega) (by omega)];omega
  have w5:IntKind.wrap .i64 ((pre.length:Int)+1)=((pre.length+1:Nat):Int):=vb2 (by omega)
  have hp:(0:Int)≤(pre.length:Int):=Int.natCast_nonneg _
  have hj':=hj k
  rw [List.length_append,List.length_singleton,List.append_assoc,List.singleton_append,List.append_assoc,List.singleton_append]at hj'
  simp only [vac,vhz,hlt,decide_true,cond_true,va8 (show c≤10000000 by omega),w1,va8 (show c+1≤10000000 by omega),Int.toNat_natCast,vvy,vop,hp,and_self,if_true,w2,w3,w4,w5,Sum.elim_inl]
  refine Eq.trans (b:=vac vhz q (c+4,((pre.length+1:Nat):Int),pre++(vhx c,(vhx (c+1),((c+2).tmod 3==0,c+3)))::l) k) rfl ?_
  rw [hj']
  simp only [vmv,List.length_cons]
  congr 2
  push_cast
  omega
theorem vl6 {l:List tVersion.D}(hl:l.length≤1048576){c:Int}(h0:0≤c)(hc:c+4*l.length≤9000000) (k):vx1 c l k=k (c+4*l.length,vmv c l):=by
 rw [v60]
 unfold v1s
 obtain⟨j,hj⟩:=vd1 l [] c Fuel h0 hc (by simpa using hl) (by have:=vd6;omega)
 simp only [List.length_nil,List.nil_append]at hj
 rw [show ((0:Int))=((0:Nat):Int)from rfl,hj]
theorem vgk {u0 u2}:∀(l:List tVersion.D) (c:Int) (i:Nat),0≤c→c+4*l.length≤9000000→∃j:Int,∀k,vg9 u0 u2 (vmv c l) c i k=k (.inr (c+4*l.length,j))
 |[],c,i,_,_=>⟨_,fun k=>by simp only [vmv,vg9,List.length_nil];simp;rfl⟩
 |y::l,c,i,h0,hc=>by
  simp only [List.length_cons]at hc
  obtain⟨j,hj⟩:=vgk (u0:=u0) (u2:=u2) l (c+4) (i+1) (by omega) (by omega)
  have w1:IntKind.wrap .i64 (c+1)=c+1:=vbk (by omega) (by omega)
  have w2:IntKind.wrap .i64 (c+1+1)=c+2:=by rw [vbk (by omega) (by omega)];omega
  have w3:IntKind.wrap .i64 (c+2+1)=c+3:=by rw [vbk (by omega) (by omega)];omega
  have w4:IntKind.wrap .i64 (c+3+1)=c+4:=by rw [vbk (by omega) (by omega)];omega
  refine⟨j,fun k=>?_⟩
  simp only [vmv,vg9,va8 (show c≤10000000 by omega),w1,va8 (show c+1≤10000000 by omega),vck,Bool.not_true,cond_false,w2,w3,w4,beq_self_eq_true,bne_self_eq_false,hj,List.length_cons]
  congr 3
  push_cast
  omega
theorem vq3 {l:List tVersion.D}(hl:l.length≤1048576){c:Int}(h0:0≤c)(hc:c+4*l.length≤9000000) (k):vsc (vmv c l) c k=k (c+4*(l.length:Int)):=by
 rw [weu (by rw [vn4];omega)]
 unfold v7o
 obtain⟨j,hj⟩:=vgk (u0:=vmv c l) (u2:=0) l c 0 h0 hc
 rw [hj];rfl
theorem vus {l:List tRange.D}(hl:l.length≤1048576){c:Int}(h0:0≤c)(hc:c+2*l.length≤9000000) (k):vp5 (vmn c l) c k=k (c+2*(l.length:Int)):=by
 rw [wey (by rw [vny];omega)]
 unfold v6r
 obtain⟨j,hj⟩:=vi0 (u0:=vmn c l) (u2:=0) l c 0 h0 hc
 rw [hj];rfl
theorem vvw {l:List tWrite.D}(hl:l.length≤1048576){c:Int}(h0:0≤c)(hc:c+3*l.length≤9000000) (k):vrl (vnb c l) c k=k (c+3*(l.length:Int)):=by
 rw [we1 (by rw [vnp];omega)]
 unfold v5v
 obtain⟨j,hj⟩:=vi7 (u0:=vnb c l) (u2:=0) l c 0 h0 hc
 rw [hj];rfl
theorem vmh {u0 u2}:∀(l:List tTxn.D) (c:Int) (i:Nat),(∀y∈l,y.2.2.2.2.1.length≤1048576∧y.2.2.2.2.2.1.length≤1048576)→0≤c→c+cntT l≤9000000→∃j:Int,∀k,vg3 u0 u2 (vlh c l) c i k=k (.inr (c+cntT l,j))
 |[],c,i,_,_,_=>⟨_,fun k=>by simp only [vlh,vg3,cntT];simp;rfl⟩
 |y::l,c,i,hw,h0,hc=>by
  obtain⟨hy1,hy2⟩:=hw y (by simp)
  have hp1:=vdo l
  simp only [cntT]at hc
  have hcy:vmr y=6+2*(y.2.2.2.2.1.length:Int)+3*(y.2.2.2.2.2.1.length:Int):=rfl
  obtain⟨j,hj⟩:=vmh (u0:=u0) (u2:=u2) l (c+vmr y) (i+1) (fun z hz=>hw z (by simp [hz])) (by omega) (by omega)
  have w1:IntKind.wrap .i64 (c+1)=c+1:=vbk (by omega) (by omega)
  have w2:IntKind.wrap .i64 (c+1+1)=c+2:=by rw [vbk (by omega) (by omega)];omega
  have w3:IntKind.wrap .i64 (c+2+1)=c+3:=by rw [vbk (by omega) (by omega)];omega
  have w4:IntKind.wrap .i64 (c+3+1)=c+4:=by rw [vbk (by omega) (by omega)];omega
  have w5:IntKind.wrap .i64 (c+4+2*(y.2.2.2.2.1.length:Int)+3*(y.2.2.2.2.2.1.length:Int)+1)=c+4+2*(y.2.2.2.2.1.length:Int)+3*(y.2.2.2.2.2.1.length:Int)+1:=vbk (by omega) (by omega)
  have w6:IntKind.wrap .i64 (c+4+2*(y.2.2.2.2.1.length:Int)+3*(y.2.2.2.2.2.1.length:Int)+1+1)=c+vmr y:=by rw [vbk (by omega) (by omega)];omega
  have n1:decide (c+4+2*(y.2.2.2.2.1.length:Int)<0)=false:=decide_eq_false (by omega)
  have n2:decide (c+4+2*(y.2.2.2.2.1.length:Int)+3*(y.2.2.2.2.2.1.length:Int)<0)=false:=decide_eq_false (by omega)
  refine⟨j,fun k=>?_⟩
  simp only [vlh,v17,vg3,w1,w2,w3,w4,bne_self_eq_false,cond_false,vus hy1 (show 0≤c+4 by omega) (show c+4+2*(y.2.2.2.2.1.length:Int)≤9000000 by omega),n1,
   vvw hy2 (show 0≤c+4+2*(y.2.2.2.2.1.length:Int) by omega) (show c+4+2*(y.2.2.2.2.1.length:Int)+3*(y.2.2.2.2.2.1.length:Int)≤9000000 by omega),n2,beq_self_eq_true,Bool.not_true,w5,
   va8 (show c+4+2*(y.2.2.2.2.1.length:Int)+3*(y.2.2.2.2.2.1.length:Int)+1≤10000000 by omega),vck,w6,hj,cntT]
  congr 3
  omega
theorem vri {l:List tTxn.D}(hw:∀y∈l,y.2.2.2.2.1.length≤1048576∧y.2.2.2.2.2.1.length≤1048576)(hl:l.length≤1048576){c:Int}(h0:0≤c)(hc:c+cntT l≤9000000) (k) :
  vp1 (vlh c l) c k=k (c+cntT l):=by
 rw [wer (by rw [vn3];omega)]
 unfold v7b
 obtain⟨j,hj⟩:=vmh (u0:=vlh c l) (u2:=0) l c 0 hw h0 hc
 rw [hj];rfl
def OkTs (l:List tTxn.D):Prop:=(∀y∈l,y.2.2.2.2.1.length≤1048576∧y.2.2.2.2.2.1.length≤1048576)∧l.length≤1048576
theorem vzt {l:List tTxn.D}(h:(Ty.slice tTxn).wt l≤1048576):OkTs l:=
 ⟨fun y hy=>by
  have:=vgv hy h
  rw [v6t]at this
  exact⟨vex (T:=tRange) (by omega),vex (T:=tWrite) (by omega)⟩,vex h⟩
theorem vz0 {l:List tTxn.D}:cntT l≤6*((Ty.slice tTxn).wt l:Nat):=by
 have:=v63 l
 rw [Ty.wt_slice];exact this
def cntB (b:tBase.D):Int:=4*(b.1.length:Int)+cntT b.2.1+cntT b.2.2.1
def OkBs (b:tBase.D):Prop:=b.1.length≤1048576∧OkTs b.2.1∧OkTs b.2.2.1
def vln (c:Int)(b:tBase.D):tBase.D:=(vmv c b.1,(vlh (c+4*b.1.length) b.2.1,(vlh (c+4*b.1.length+cntT b.2.1) b.2.2.1,b.2.2.2)))
theorem v0k (b:tBase.D):0≤cntB b:=by unfold cntB;have:=vdo b.2.1;have:=vdo b.2.2.1;omega
theorem weg {b:tBase.D}(h:tBase.wt b≤1048576):OkBs b:=by
 rw [vw5]at h
 exact⟨vex (T:=tVersion) (by omega),vzt (by omega),vzt (by omega)⟩
theorem wei (b:tBase.D):cntB b≤6*(tBase.wt b:Nat):=by
 have h1:=vz0 (l:=b.2.1)
 have h2:=vz0 (l:=b.2.2.1)
 have h3:(Ty.slice tVersion).wt b.1=b.1.length+wtL tVersion b.1:=Ty.wt_slice _ _
 have h4:=vw5 b
 unfold cntB
 omega
theorem vqu {b:tBase.D}(hb:OkBs b){c:Int}(h0:0≤c)(hc:c+cntB b≤9000000)(a0 a1:Int) (k) :
  vlw a0 a1 c b.1 b.2.1 b.2.2.1 k=k (c+cntB b,(vln c b).1,(vln c b).2.1,(vln c b).2.2.1):=by
 obtain⟨hb1,hb2,hb3⟩:=hb
 have p1:=vdo b.2.1
 have p2:=vdo b.2.2.1
 have hcb:cntB b=4*(b.1.length:Int)+cntT b.2.1+cntT b.2.2.1:=rfl
 rw [v44]
 unfold v1l
 simp only [vl6 hb1 h0 (by omega),vfj hb2.1 hb2.2 (show 0≤c+4*(b.1.length:Int) by omega) (by omega),vfj hb3.1 hb3.2 (show 0≤c+4*(b.1.length:Int)+cntT b.2.1 by omega) (by omega),vln]
 congr 2
 omega
theorem vx7 {b:tBase.D}(hb:OkBs b){c:Int}(h0:0≤c)(hc:c+cntB b≤9000000)(z:Int×Int) (k) :
  vlp ((vln c b).1,((vln c b).2.1,((vln c b).2.2.1,z))) c k=k (c+cntB b):=by
 obtain⟨hb1,hb2,hb3⟩:=hb
 have p1:=vdo b.2.1
 have p2:=vdo b.2.2.1
 have hcb:cntB b=4*(b.1.length:Int)+cntT b.2.1+cntT b.2.2.1:=rfl
 have n1:decide (c+4*(b.1.length:Int)<0)=false:=decide_eq_false (by omega)
 have n2:decide (c+4*(b.1.length:Int)+cntT b.2.1<0)=false:=decide_eq_false (by omega)
 have n3:decide (c+4*(b.1.length:Int)+cntT b.2.1+cntT b.2.2.1<0)=false:=decide_eq_false (by omega)
 rw [v73]
 unfold v0q
 simp only [vln,vq3 hb1 h0 (by omega),n1,cond_false,vri hb2.1 hb2.2 (show 0≤c+4*(b.1.length:Int) by omega) (by omega),n2,vri hb3.1 hb3.2 (show 0≤c+4*(b.1.length:Int)+cntT b.2.1 by omega) (by omega),n3]
 congr 1
 omega
end
end Go.VE
/- Plain laws of engines: copies,comparisons,marks where lists are short;GetKey. -/
namespace Go.VE
noncomputable section
set_option linter.unusedVariables false
set_option linter.unusedSimpArgs false
set_option maxRecDepth 100000
theorem vx4 {u0:List tTxn.D}:∀(l acc:List tTxn.D) (i:Nat),(∀y∈l,y.2.2.2.2.1.length≤1048576∧y.2.2.2.2.2.1.length≤1048576)→acc.length+l.length≤1048576→
  ∃j:Int,∀K,vhi u0 l acc i K=K (j,acc++l)
 |[],acc,i,_,_=>⟨_,fun K=>by simp only [vhi,List.append_nil];rfl⟩
 |y::l,acc,i,hw,h=>by
  simp only [List.length_cons]at h
  obtain⟨j,hj⟩:=vx4 (u0:=u0) l (acc++[y]) (i+1) (fun z hz=>hw z (by simp [hz])) (by rw [List.length_append,List.length_singleton];omega)
  have hy:=hw y (by simp)
  refine⟨j,fun K=>?_⟩
  simp only [vhi,v7i hy.1 hy.2,vl3]
  rw [if_pos (by rw [List.length_singleton];have:VE.maxLen=4294967296:=rfl;omega),hj]
  simp only [List.append_assoc,List.singleton_append]
theorem v7v {l:List tTxn.D}(h:OkTs l) (k):vpu l k=k l:=by
 rw [wff (by have:=h.2;omega)]
 obtain⟨j,hj⟩:=vx4 (u0:=l) l [] 0 h.1 (by simpa using h.2)
 simp only [v7d,hj,List.nil_append]
theorem vwo {u0:List tTxn.D}:∀(l acc:List tTxn.D) (i:Nat),(∀y∈l,y.2.2.2.2.1.length≤1048576∧y.2.2.2.2.2.1.length≤1048576)→acc.length+l.length≤1048576→
  ∃j:Int,∀K,vhm u0 l acc i K=K (j,acc++l)
 |[],acc,i,_,_=>⟨_,fun K=>by simp only [vhm,List.append_nil];rfl⟩
 |y::l,acc,i,hw,h=>by
  simp only [List.length_cons]at h
  obtain⟨j,hj⟩:=vwo (u0:=u0) l (acc++[y]) (i+1) (fun z hz=>hw z (by simp [hz])) (by rw [List.length_append,List.length_singleton];omega)
  have hy:=hw y (by simp)
  refine⟨j,fun K=>?_⟩
  simp only [vhm,wdh hy.1 hy.2,vl3]
  rw [if_pos (by rw [List.length_singleton];have:VE.maxLen=4294967296:=rfl;omega),hj]
  simp only [List.append_assoc,List.singleton_append]
theorem v7f {l:List tTxn.D}(h:OkTs l) (k):vo8 l k=k l:=by
 rw [wfy (by have:=h.2;omega)]
 obtain⟨j,hj⟩:=vwo (u0:=l) l [] 0 h.1 (by simpa using h.2)
 simp only [v65,hj,List.nil_append]
theorem vki {u0:List tTxn.D}(hu:OkTs u0){u2:Bool}:∀(l:List tTxn.D) (i:Nat),u0.drop i=l→∃z,∀k,vgb u0 u0 u2 l i k=k (.inr z)
 |[],i,h=>⟨_,fun k=>rfl⟩
 |y::l,i,h=>by
  have hlt:=vcu h
  obtain⟨z,hz⟩:=vki hu (u2:=u2) l (i+1) (vba h)
  have hy:=(var h).1
  have hm:=hu.1 y (vk5 h)
  refine⟨z,fun k=>?_⟩
  simp only [vgb]
  rw [if_pos ⟨by omega,by omega⟩]
  simp only [hy,vr7 y hm.1 hm.2,Bool.not_true,cond_false,hz]
theorem vv2 {x:List tTxn.D}(h:OkTs x) (k):vkh x x k=k true:=by
 rw [wcg (by have:=h.2;omega)]
 obtain⟨z,hz⟩:=vki h (u2:=false) x 0 rfl
 simp [v0r,hz]
end
end Go.VE
/- Plain laws: what is trimmed. -/
namespace Go.VE
noncomputable section
set_option linter.unusedVariables false
set_option linter.unusedSimpArgs false
set_option maxRecDepth 100000
def vj5 (L:List tVersion.D)(snap:Int):List tVersion.D→Nat→List tVersion.D
 |[],_=>[]
 |y::l,i=>bif decide (y.2.2.2>snap)||(vhs L y.1 snap==(i:Int))then y::vj5 L snap l (i+1)else vj5 L snap l (i+1)
def cntK (L:List tVersion.D)(key:ByteArray):Nat:=(L.filter fun y=>vbh y.1 key).length
def vmu (L:List tVersion.D)(snap:Int)(y:tVersion.D):Bool:=decide (y.2.2.2>snap) || !y.2.2.1||decide (1<cntK L y.1)
def v61 (L:List tVersion.D)(snap:Int):List tVersion.D:=(vj5 L snap L 0).filter (vmu (vj5 L snap L 0) snap)
theorem vmi (L:List tVersion.D)(snap:Int):∀(l:List tVersion.D) (i:Nat),(vj5 L snap l i).length≤l.length
 |[],i=>Nat.le_refl _
 |y::l,i=>by
  have:=vmi L snap l (i+1)
  simp only [vj5]
  cases decide (y.2.2.2>snap)||(vhs L y.1 snap==(i:Int))
  ·simp only [cond_false,List.length_cons];omega
  ·simp only [cond_true,List.length_cons];omega
theorem vxw (L:List tVersion.D)(snap:Int):(v61 L snap).length≤L.length:=Nat.le_trans (List.length_filter_le _ _) (vmi L snap L 0)
theorem vms {L:List tVersion.D}(hL:L.length≤1048576){snap:Int}{u2:List tVersion.D}:∀(l s:List tVersion.D) (i:Nat),s.length+l.length≤3000000→∃j:Int,∀k,vfy L snap u2 l s i k=k (j,s++vj5 L snap l i)
 |[],s,i,_=>⟨(i:Int),fun k=>by simp only [vfy,vj5,List.append_nil]⟩
 |y::l,s,i,h=>by
  simp only [List.length_cons]at h
  have hm:s.length+[y].length≤VE.maxLen:=by show _≤4294967296;simp only [List.length_singleton];omega
  obtain⟨j1,hj1⟩:=vms hL (snap:=snap) (u2:=u2) l (s++[y]) (i+1) (by rw [List.length_append,List.length_singleton];omega)
  obtain⟨j2,hj2⟩:=vms hL (snap:=snap) (u2:=u2) l s (i+1) (by omega)
  simp only [vfy,vj5,vb8,wel hL,vl3,cond_true,if_pos hm]
  cases decide (y.2.2.2>snap)with
  |true=>exact⟨j1,fun k=>by simp only [cond_true,Bool.true_or,hj1,List.append_assoc,List.singleton_append]⟩
  |false=>
   simp only [cond_false,Bool.false_or]
   cases vhs L y.1 snap==(i:Int)with
   |true=>exact⟨j1,fun k=>by simp only [cond_true,hj1,List.append_assoc,List.singleton_append]⟩
   |false=>exact⟨j2,fun k=>by simp only [cond_false,hj2]⟩
theorem vm2 {L:List tVersion.D}(hL:L.length≤1048576){snap:Int}:∀(l s:List tVersion.D) (i:Nat),L.drop i=l→s.length+l.length≤3000000→∃j:Int,∀k,vf8 L snap l s i k=k (j,s++vj5 L snap l i)
 |[],s,i,_,_=>⟨(i:Int),fun k=>by simp only [vf8,vj5,List.append_nil]⟩
 |y::l,s,i,hd,h=>by
  have hlt:=vcu hd
  have hy:rd (Ty.zero tVersion) L (i:Int)=y:=(var hd).1 _
  simp only [List.length_cons]at h
  have hm:s.length+[y].length≤VE.maxLen:=by show _≤4294967296;simp only [List.length_singleton];omega
  have hi:0≤(i:Int)∧(i:Int)<(L.length:Int):=⟨by omega,by omega⟩
  obtain⟨j1,hj1⟩:=vm2 hL (snap:=snap) l (s++[y]) (i+1) (vba hd) (by rw [List.length_append,List.length_singleton];omega)
  obtain⟨j2,hj2⟩:=vm2 hL (snap:=snap) l s (i+1) (vba hd) (by omega)
  simp only [vf8,vj5,vce,wea hL,hy,cond_true,if_pos hm,if_pos hi]
  cases decide (y.2.2.2>snap)with
  |true=>exact⟨j1,fun k=>by simp only [cond_true,Bool.true_or,hj1,List.append_assoc,List.singleton_append]⟩
  |false=>
   simp only [cond_false,Bool.false_or]
   cases vhs L y.1 snap==(i:Int)with
   |true=>exact⟨j1,fun k=>by simp only [cond_true,hj1,List.append_assoc,List.singleton_append]⟩
   |false=>exact⟨j2,fun k=>by simp only [cond_false,hj2]⟩
theorem vmt {u0:ByteArray}{u4:List tVersion.D}:∀(l:List tVersion.D) (n i:Nat),n+l.length≤3000000→∃j:Int,∀k,vhh u0 u4 l (n:Int) i k=k (((n+cntK l u0:Nat):Int),j)
 |[],n,i,_=>⟨(i:Int),fun k=>rfl⟩
 |y::l,n,i,h=>by
  simp only [List.length_cons]at h
  have hw:IntKind.wrap .i64 ((n:Int)+1)=((n+1:Nat):Int):=vb2 (by omega)
  obtain⟨j1,hj1⟩:=vmt (u0:=u0) (u4:=u4) l (n+1) (i+1) (by omega)
  obtain⟨j2,hj2⟩:=vmt (u0:=u0) (u4:=u4) l n (i+1) (by omega)
  have hc:cntK (y::l) u0=(bif vbh y.1 u0 then 1 else 0)+cntK l u0:=by
   unfold cntK
   rw [List.filter_cons]
   cases vbh y.1 u0
   ·simp
   ·simp only [if_true,List.length_cons,cond_true];omega
  rw [hc]
  simp only [vhh,hw]
  cases vbh y.1 u0 with
  |true=>exact⟨j1,fun k=>by simp only [cond_true,hj1];rw [show n+1+cntK l u0=n+(1+cntK l u0) by omega]⟩
  |false=>exact⟨j2,fun k=>by simp only [cond_false,hj2,Nat.zero_add]⟩
theorem wd9 {u0:ByteArray}{u4:List tVersion.D}(h:u4.length≤1048576) (k):vtc u0 u4 k=k ((cntK u4 u0:Int),u4):=by
 rw [we8 (by omega)]
 unfold v49
 obtain⟨j,hj⟩:=vmt (u0:=u0) (u4:=u4) u4 0 0 (by omega)
 have hz:((0:Nat):Int)=0:=rfl
 rw [hz]at hj
 rw [hj,Nat.zero_add]
theorem vmo {L:List tVersion.D}(hL:L.length≤1048576){snap:Int}:∀(l s:List tVersion.D) (i q:Nat),L.drop i=l→l.length<q→s.length+l.length≤3000000→∃j:Int,∀K,
  vac vii q (snap,(L.length:Int),(i:Int),s,L) K=K (snap,(L.length:Int),j,s++l.filter (vmu L snap),L)
 |l,s,i,0,_,h,_=>by omega
 |[],s,i,q+1,hd,_,_=>by
  have hge:=va3 hd
  exact⟨(i:Int),fun K=>by simp only [vac,vii,hge,decide_false,cond_false,Sum.elim_inr,List.filter_nil,List.append_nil]⟩
 |y::l,s,i,q+1,hd,hq,h=>by
  have hlt:=vcu hd
  have hy:L.getD i (Ty.zero tVersion)=y:=(var hd).2 _
  have hw1:IntKind.wrap .i64 ((i:Int)+1)=((i+1:Nat):Int):=vb2 (by omega)
  simp only [List.length_cons]at h
  have hm:s.length+[y].length≤VE.maxLen:=by show _≤4294967296;simp only [List.length_singleton];omega
  obtain⟨j1,hj1⟩:=vmo hL (snap:=snap) l (s++[y]) (i+1) q (vba hd) (by simpa using hq) (by rw [List.length_append,List.length_singleton];omega)
  obtain⟨j2,hj2⟩:=vmo hL (snap:=snap) l s (i+1) q (vba hd) (by simpa using hq) (by omega)
  have hc:(decide ((cntK L y.1:Int)>1))=decide (1<cntK L y.1):=by
   by_cases c:1<cntK L y.1
   ·rw [decide_eq_true c,decide_eq_true (by omega)]
   ·rw [decide_eq_false c,decide_eq_false (by omega)]
  have key:∀b:Bool,vmu L snap y=b→((y::l).filter (vmu L snap))=bif b then y::l.filter (vmu L snap)else l.filter (vmu L snap):=fun b hb=>by
   rw [List.filter_cons,hb];cases b<;>rfl
  have hk:vmu L snap y=(decide (y.2.2.2>snap) || !y.2.2.1||decide (1<cntK L y.1)):=rfl
  simp only [vac,vii,show (i:Int)<(L.length:Int) by omega,show (0:Int)≤(i:Int) by omega,and_self,if_true,decide_true,cond_true,Int.toNat_natCast,hy,hw1,if_pos hm,wd9 hL,hc,Sum.elim_inl]
  cases h1:decide (y.2.2.2>snap)with
  |true=>
   rw [h1]at hk
   exact⟨j1,fun K=>by simp only [cond_true];rw [hj1,key _ hk];simp only [Bool.true_or,cond_true,List.append_assoc,List.singleton_append]⟩
  |false=>
   rw [h1]at hk
   cases h2:y.2.2.1 with
   |false=>
    rw [h2]at hk
    exact⟨j1,fun K=>by simp only [cond_true,cond_false,Bool.not_false];rw [hj1,key _ hk];simp only [Bool.false_or,Bool.not_false,Bool.true_or,cond_true,List.append_assoc,List.singleton_append]⟩
   |true=>
    rw [h2]at hk
    cases h3:decide (1<cntK L y.1)with
    |true=>
     rw [h3]at hk
     exact⟨j1,fun K=>by simp only [cond_true,cond_false,Bool.not_true];rw [hj1,key _ hk];simp only [Bool.false_or,Bool.not_true,cond_true,List.append_assoc,List.singleton_append]⟩
    |false=>
     rw [h3]at hk
     exact⟨j2,fun K=>by simp only [cond_false,Bool.not_true];rw [hj2,key _ hk];simp only [Bool.false_or,Bool.not_true,cond_false]⟩
theorem wdj {L:List tVersion.D}(hL:L.length≤1048576)(snap:Int) (k):vo6 L snap k=k (v61 L snap):=by
 rw [wgb (by omega)]
 unfold v6b
 obtain⟨j,hj⟩:=vms hL (snap:=snap) (u2:=L) L [] 0 (by simp;omega)
 have hl:=vmi L snap L 0
 obtain⟨j2,hj2⟩:=vmo (L:=vj5 L snap L 0) (by omega) (snap:=snap) (vj5 L snap L 0) [] 0 Fuel rfl (Nat.lt_of_lt_of_le (by omega) vd6) (by simp;omega)
 have hz:((0:Nat):Int)=0:=rfl
 rw [hz]at hj2
 rw [hj]
 simp only [List.nil_append]at hj2 ⊢
 rw [hj2]
 rfl
theorem vnd {snap:Int}{u1:Nat}{L s:List tVersion.D}(h1:u1<L.length){y0:tVersion.D}(hy0:L.getD u1 (Ty.zero tVersion)=y0):∀(l:List tVersion.D) (n i:Nat),n+l.length≤3000000→∃j:Int,∀k,vg7 snap (u1:Int) L s l (n:Int) i k=k (((n+cntK l y0.1:Nat):Int),j)
 |[],n,i,_=>⟨(i:Int),fun k=>rfl⟩
 |y::l,n,i,h=>by
  simp only [List.length_cons]at h
  have hw:IntKind.wrap .i64 ((n:Int)+1)=((n+1:Nat):Int):=vb2 (by omega)
  obtain⟨j1,hj1⟩:=vnd (snap:=snap) (s:=s) h1 hy0 l (n+1) (i+1) (by omega)
  obtain⟨j2,hj2⟩:=vnd (snap:=snap) (s:=s) h1 hy0 l n (i+1) (by omega)
  have hc:cntK (y::l) y0.1=(bif vbh y.1 y0.1 then 1 else 0)+cntK l y0.1:=by
   unfold cntK
   rw [List.filter_cons]
   cases vbh y.1 y0.1
   ·simp
   ·simp only [if_true,List.length_cons,cond_true];omega
  rw [hc]
  have hi:0≤(u1:Int)∧(u1:Int)<(L.length:Int):=⟨by omega,by omega⟩
  simp only [vg7,hw,Int.toNat_natCast,hy0,if_pos hi]
  cases vbh y.1 y0.1 with
  |true=>exact⟨j1,fun k=>by simp only [cond_true,hj1];rw [show n+1+cntK l y0.1=n+(1+cntK l y0.1) by omega]⟩
  |false=>exact⟨j2,fun k=>by simp only [cond_false,hj2,Nat.zero_add]⟩
theorem vna {L:List tVersion.D}(hL:L.length≤1048576){snap:Int}:∀(l s:List tVersion.D) (i:Nat),L.drop i=l→s.length+l.length≤3000000→∃j:Int,∀k,vf1 snap L l s i k=k (j,s++l.filter (vmu L snap))
 |[],s,i,_,_=>⟨(i:Int),fun k=>by simp only [vf1,List.filter_nil,List.append_nil]⟩
 |y::l,s,i,hd,h=>by
  have hlt:=vcu hd
  have hy:L.getD i (Ty.zero tVersion)=y:=(var hd).2 _
  simp only [List.length_cons]at h
  have hm:s.length+[y].length≤VE.maxLen:=by show _≤4294967296;simp only [List.length_singleton];omega
  have hi:0≤(i:Int)∧(i:Int)<(L.length:Int):=⟨by omega,by omega⟩
  obtain⟨j0,hj0⟩:=vnd (snap:=snap) (s:=s) hlt hy L 0 0 (by omega)
  have hz:((0:Nat):Int)=0:=rfl
  rw [hz]at hj0
  obtain⟨j1,hj1⟩:=vna hL (snap:=snap) l (s++[y]) (i+1) (vba hd) (by rw [List.length_append,List.length_singleton];omega)
  obtain⟨j2,hj2⟩:=vna hL (snap:=snap) l s (i+1) (vba hd) (by omega)
  have hc:(decide (((0+cntK L y.1:Nat):Int)>1))=decide (1<cntK L y.1):=by
   rw [Nat.zero_add]
   by_cases c:1<cntK L y.1
   ·rw [decide_eq_true c,decide_eq_true (by omega)]
   ·rw [decide_eq_false c,decide_eq_false (by omega)]
  have key:∀b:Bool,vmu L snap y=b→((y::l).filter (vmu L snap))=bif b then y::l.filter (vmu L snap)else l.filter (vmu L snap):=fun b hb=>by
   rw [List.filter_cons,hb];cases b<;>rfl
  have hk:vmu L snap y=(decide (y.2.2.2>snap) || !y.2.2.1||decide (1<cntK L y.1)):=rfl
  simp only [vf1,hj0,vbz,Int.toNat_natCast,hy,cond_true,if_pos hm,if_pos hi,hc]
  cases h2:y.2.2.1 with
  |false=>
   rw [h2,Bool.not_false,Bool.or_true,Bool.true_or]at hk
   exact⟨j1,fun k=>by simp only [cond_true,Bool.not_false];rw [hj1,key _ hk];simp only [cond_true,List.append_assoc,List.singleton_append]⟩
  |true=>
   rw [h2,Bool.not_true,Bool.or_false]at hk
   cases h1:decide (y.2.2.2>snap)with
   |true=>
    rw [h1,Bool.true_or]at hk
    exact⟨j1,fun k=>by simp only [cond_true,cond_false,Bool.not_true];rw [hj1,key _ hk];simp only [cond_true,List.append_assoc,List.singleton_append]⟩
   |false=>
    rw [h1,Bool.false_or]at hk
    cases h3:decide (1<cntK L y.1)with
    |true=>
     rw [h3]at hk
     exact⟨j1,fun k=>by simp only [cond_true,cond_false,Bool.not_true];rw [hj1,key _ hk];simp only [cond_true,List.append_assoc,List.singleton_append]⟩
    |false=>
     rw [h3]at hk
     exact⟨j2,fun k=>by simp only [cond_false,Bool.not_true];rw [hj2,key _ hk];simp only [cond_false]⟩
theorem wdi {L:List tVersion.D}(hL:L.length≤1048576)(snap:Int) (k):vo7 L snap k=k (v61 L snap):=by
 rw [wfg (by omega)]
 unfold v4s
 obtain⟨j,hj⟩:=vm2 hL (snap:=snap) L [] 0 rfl (by simp;omega)
 have hl:=vmi L snap L 0
 obtain⟨j2,hj2⟩:=vna (L:=vj5 L snap L 0) (by omega) (snap:=snap) (vj5 L snap L 0) [] 0 rfl (by simp;omega)
 rw [hj]
 simp only [List.nil_append]at hj2 ⊢
 rw [waf (by omega),hj2]
 rfl
end
end Go.VE
/- Plain laws: the text of a transaction,there and back. -/
namespace Go.VE
noncomputable section
set_option linter.unusedVariables false
set_option linter.unusedSimpArgs false
set_option maxRecDepth 100000
def Back (s:ByteArray)(a c:Int)(P:List Int):Prop:=0≤a∧c=a+(P.length:Int)∧c≤(s.size:Int)∧(vd2 s).drop a.toNat=P++(vd2 s).drop c.toNat
theorem Back.at {s:ByteArray}{a c:Int}{P:List Int}(h:Back s a c P):0≤a∧a≤(s.size:Int)∧0≤c∧c≤(s.size:Int):=by
 obtain⟨a1,a2,a3,a4⟩:=h
 omega
theorem Back.nil {s:ByteArray}{a c:Int}(h:Back s a c []):c=a:=by have:=h.2.1;simp at this;exact this
end
end Go.VE
/- Plain laws: slices.DeleteFunc,its loop. -/
namespace Go.VE
noncomputable section
set_option linter.unusedVariables false
set_option linter.unusedSimpArgs false
set_option maxRecDepth 100000
def inD (lo hi:Nat)(dd:List Nat):Prop:=∀d∈dd,lo≤d∧d<hi
theorem v4l {lo hi:Nat}:∀{dd:List Nat},inD lo hi dd→hasD dd hi=false
 |[],_=>rfl
 |a::l,h=>by
  have h1:=h a (by simp)
  have hb:Nat.beq a hi=false:=by
   cases hb:Nat.beq a hi with
   |false=>rfl
   |true=>have:=Nat.eq_of_beq_eq_true hb;omega
  simp only [hasD,hb,v4l (dd:=l) (fun d hd=>h d (by simp [hd])),Bool.or_self]
theorem wbz {lo hi:Nat}:∀{dd:List Nat},inD lo hi dd→loD lo dd=[]
 |[],_=>rfl
 |a::l,h=>by
  have h1:=h a (by simp)
  have hb:Nat.blt a lo=false:=by
   cases hb:Nat.blt a lo with
   |false=>rfl
   |true=>rw [Nat.blt_eq]at hb;omega
  simp only [loD,hb,cond_false,wbz (dd:=l) (fun d hd=>h d (by simp [hd]))]
theorem v6p {lo hi:Nat}:∀{dd:List Nat},inD lo hi dd→inD (lo+1) (hi+1) (delD lo dd)
 |[],_=>fun d hd=>by simp [delD]at hd
 |a::l,h=>by
  have h1:=h a (by simp)
  have ih:=v6p (dd:=l) (fun d hd=>h d (by simp [hd]))
  intro d hd
  simp only [delD]at hd
  cases hb:Nat.beq a lo with
  |true=>rw [hb]at hd;exact ih d hd
  |false=>
   rw [hb]at hd
   simp only [cond_false,List.mem_cons]at hd
   rcases hd with rfl|hd
   ·have:d≠lo:=fun e=>by subst e;rw [Nat.beq_refl]at hb;cases hb
    omega
   ·exact ih d hd
structure DelAt {α:Type} (p:α→Bool) (xs0:List α) (i j:Nat) (xs:List α) (dd:List Nat):Prop where
 len:xs.length=xs0.length
 lt:i<j
 le:j≤xs0.length
 kept:xs.take i=(xs0.take j).filter fun x=>!p x
 rest:xs.drop j=xs0.drop j
 dead:inD i j dd
theorem DelAt.get {α:Type}{p:α→Bool}{xs0 xs:List α}{i j:Nat}{dd:List Nat}(h:DelAt p xs0 i j xs dd)(hj:j<xs0.length)(d:α):xs.getD j d=xs0[j]:=by
 have h1:=congrArg (fun l=>l[0]?) h.rest
 simp only [List.getElem?_drop,Nat.add_zero,List.getElem?_eq_getElem hj]at h1
 simp [List.getD,h1]
theorem vk7 {α:Type}(f:α→Bool)(xs:List α){j:Nat}(hj:j<xs.length):(xs.take (j+1)).filter f=(xs.take j).filter f++(if f xs[j]then [xs[j]]else []):=by
 rw [List.take_add_one,List.getElem?_eq_getElem hj,List.filter_append]
 congr 1
 cases hf:f xs[j]<;>simp [hf]
theorem DelAt.skip {α:Type}{p:α→Bool}{xs0 xs:List α}{i j:Nat}{dd:List Nat}(h:DelAt p xs0 i j xs dd)(hj:j<xs0.length)(hp:p xs0[j]=true):DelAt p xs0 i (j+1) xs dd where
 len:=h.len
 lt:=Nat.lt_succ_of_lt h.lt
 le:=hj
 kept:=by rw [vk7 _ _ hj,h.kept,hp];simp
 rest:=by rw [←List.drop_drop,←List.drop_drop,h.rest]
 dead:=fun d hd=>⟨(h.dead d hd).1,Nat.lt_succ_of_lt (h.dead d hd).2⟩
theorem DelAt.keep {α:Type}{p:α→Bool}{xs0 xs:List α}{i j:Nat}{dd:List Nat}(h:DelAt p xs0 i j xs dd)(hj:j<xs0.length)(hp:p xs0[j]=false):DelAt p xs0 (i+1) (j+1) (xs.set i xs0[j]) (j::j::delD i dd) where
 len:=by rw [List.length_set];exact h.len
 lt:=Nat.succ_lt_succ h.lt
 le:=hj
 kept:=by
  have hi:i<xs.length:=by have:=h.lt;have:=h.len;omega
  rw [vk7 _ _ hj,←h.kept,hp,List.take_add_one,List.getElem?_set_self hi,List.take_set_of_le (Nat.le_refl i)]
  simp
 rest:=by
  have:=h.lt
  rw [List.drop_set_of_lt (by omega),←List.drop_drop,←List.drop_drop,h.rest]
 dead:=fun d hd=>by
  have:=h.lt
  simp only [List.mem_cons]at hd
  rcases hd with rfl|rfl|hd
  ·omega
  ·omega
  ·exact v6p h.dead d hd
theorem DelAt.done {α:Type}{p:α→Bool}{xs0 xs:List α}{i j:Nat}{dd:List Nat}(h:DelAt p xs0 i j xs dd)(hj:¬j<xs0.length):xs.take i=(xs0.filter fun x=>!p x)∧i=(xs0.filter fun x=>!p x).length∧loD i dd=[]:=by
 have e:j=xs0.length:=by have:=h.le;omega
 have h1:=h.kept
 rw [e,List.take_length]at h1
 refine⟨h1,?_,wbz h.dead⟩
 rw [←h1,List.length_take]
 have:=h.lt
 have:=h.le
 have:=h.len
 omega
theorem DelAt.start {α:Type}{p:α→Bool}{xs0:List α}{i:Nat}(hi:i<xs0.length)(hp:p xs0[i]=true)(hb:∀t (ht:t<xs0.length),t<i→p xs0[t]=false):DelAt p xs0 i (i+1) xs0 [] where
 len:=rfl
 lt:=Nat.lt_succ_self i
 le:=hi
 kept:=by
  rw [vk7 _ _ hi,hp]
  simp only [Bool.not_true,Bool.false_eq_true,if_false,List.append_nil]
  refine(List.filter_eq_self.2 fun y hy=>?_).symm
  obtain⟨t,ht,rfl⟩:=List.getElem_of_mem hy
  rw [List.length_take]at ht
  rw [List.getElem_take,hb t (by omega) (by omega)]
  rfl
 rest:=rfl
 dead:=fun d hd=>by cases hd
end
end Go.VE
/- Plain laws: slices.DeleteFunc answers the filtered list;bases with transactions given up. -/
namespace Go.VE
noncomputable section
set_option linter.unusedVariables false
set_option linter.unusedSimpArgs false
set_option maxRecDepth 100000
theorem wdb (p:tTxn.D→Bool):∀(l:List tTxn.D) (i:Nat),(atF p l i = -1∧∀y∈l,p y=false)∨∃(a:Nat) (ha:a<l.length),atF p l i=((i+a:Nat):Int)∧p l[a]=true∧∀t (ht:t<l.length),t<a→p l[t]=false
 |[],i=>.inl ⟨rfl,fun y h=>by cases h⟩
 |y::l,i=>by
  cases hp:p y with
  |true=>exact .inr ⟨0,by simp,by simp only [atF,hp,cond_true,Nat.add_zero],hp,fun t _ h=>by omega⟩
  |false=>
   rcases wdb p l (i+1)with⟨h,hn⟩|⟨a,ha,h,h1,h2⟩
   ·exact .inl ⟨by simp only [atF,hp,cond_false,h],fun z hz=>by rcases List.mem_cons.1 hz with rfl|hz;exact hp;exact hn z hz⟩
   ·refine .inr ⟨a+1,by simp only [List.length_cons];omega,by simp only [atF,hp,cond_false,h];congr 1;omega,h1,fun t ht hta=>?_⟩
    cases t with
    |zero=>exact hp
    |succ t=>exact h2 t (by simpa using ht) (by omega)
def tagS {α:Type}(b:Bool)(x:α):α⊕α:=bif b then .inr x else .inl x
theorem vvh {σ:Type}{c:σ}{p:tTxn.D→Bool}{xs0:List tTxn.D}(hl:xs0.length≤1048576)
  {B:((Int×Int×List tTxn.D×List Nat×σ)⊕(Int×Int×List tTxn.D×List Nat×σ))→(((Int×Int×List tTxn.D×List Nat×σ)⊕(Int×Int×List tTxn.D×List Nat×σ))⊕((Int×Int×List tTxn.D×List Nat×σ)⊕(Int×Int×List tTxn.D×List Nat×σ))→Option Res)→Option Res}
  (hk:∀b (i j:Nat) xs dd k,i<xs.length→j<xs.length→xs.length≤1048576→hasD dd j=false→p (xs.getD j (Ty.zero tTxn))=false→B (tagS b ((i:Int),(j:Int),xs,dd,c)) k=k (.inl (tagS true (((i+1:Nat):Int),((j+1:Nat):Int),xs.set i (xs.getD j (Ty.zero tTxn)),j::j::delD i dd,c))))
  (hs:∀b (i j:Nat) xs dd k,j<xs.length→xs.length≤1048576→hasD dd j=false→p (xs.getD j (Ty.zero tTxn))=true→B (tagS b ((i:Int),(j:Int),xs,dd,c)) k=k (.inl (tagS b ((i:Int),((j+1:Nat):Int),xs,dd,c))))
  (he:∀b (i j:Nat) xs dd k,¬j<xs.length→B (tagS b ((i:Int),(j:Int),xs,dd,c)) k=k (.inr (tagS b ((i:Int),(j:Int),xs,dd,c)))) :
  ∀(n:Nat) (xs:List tTxn.D) (i j:Nat) (dd:List Nat) (b:Bool) (q:Nat),xs0.length-j=n→DelAt p xs0 i j xs dd→n<q→
   ∃b' i' xs' dd',(i'≤xs'.length∧xs'.take i'=xs0.filter (fun x=>!p x)∧loD i' dd'=[])∧∀K,vac B q (tagS b ((i:Int),(j:Int),xs,dd,c)) K=K (tagS b' ((i':Int),((xs0.length:Nat):Int),xs',dd',c))
 |n,xs,i,j,dd,b,0,_,_,hq=>by omega
 |0,xs,i,j,dd,b,q+1,hn,h,_=>by
  have hlen:=h.len;have hle:=h.le;have hlt:=h.lt
  have hj:j=xs0.length:=by omega
  subst hj
  obtain⟨h1,h2,h3⟩:=h.done (by omega)
  refine⟨b,i,xs,dd,⟨by omega,h1,h3⟩,fun K=>?_⟩
  simp only [vac]
  rw [he b i _ xs dd _ (by omega)]
  simp only [Sum.elim_inr]
 |n+1,xs,i,j,dd,b,q+1,hn,h,hq=>by
  have hlen:=h.len;have hle:=h.le;have hlt:=h.lt
  have hj:j<xs0.length:=by omega
  have hd:hasD dd j=false:=v4l h.dead
  have hg:=h.get hj (Ty.zero tTxn)
  cases hp:p xs0[j]with
  |true=>
   obtain⟨b',i',xs',dd',hh,hK⟩:=vvh hl hk hs he n xs i (j+1) dd b q (by omega) (h.skip hj hp) (by omega)
   refine⟨b',i',xs',dd',hh,fun K=>?_⟩
   simp only [vac]
   rw [hs b i j xs dd _ (by omega) (by omega) hd (by rw [hg];exact hp)]
   simp only [Sum.elim_inl]
   exact hK K
  |false=>
   obtain⟨b',i',xs',dd',hh,hK⟩:=vvh hl hk hs he n (xs.set i xs0[j]) (i+1) (j+1) (j::j::delD i dd) true q (by omega) (h.keep hj hp) (by omega)
   refine⟨b',i',xs',dd',hh,fun K=>?_⟩
   simp only [vac]
   rw [hk b i j xs dd _ (by omega) (by omega) (by omega) hd (by rw [hg];exact hp),hg]
   simp only [Sum.elim_inl]
   exact hK K
theorem v97 {p:tTxn.D→Bool}{l:List tTxn.D}(h:∀y∈l,p y=false):l.filter (fun x=>!p x)=l:=
 List.filter_eq_self.2 fun y hy=>by rw [h y hy];rfl
theorem v0e {l:List tTxn.D}(h:OkTs l)(p:tTxn.D→Bool):OkTs (l.filter p):=
 ⟨fun y hy=>h.1 y (List.mem_filter.1 hy).1,Nat.le_trans (List.length_filter_le _ _) h.2⟩
theorem vpi (p:tTxn.D→Bool):∀l:List tTxn.D,cntT (l.filter p)≤cntT l
 |[]=>Int.le_refl _
 |y::l=>by
  have ih:=vpi p l
  have h1:=vrh y
  rw [List.filter_cons]
  cases p y
  ·simp only [Bool.false_eq_true,if_false,cntT];omega
  ·simp only [if_true,cntT];omega
theorem vzg (x:tTxn.D)(c:Int) (k):vno x c k=k (decide (x.2.2.2.1≤c),c):=by rw [v68];rfl
theorem vtr {u0 u1}{c:Int}:∀(l:List tTxn.D) (i:Nat),
  (∃a:Nat,atF (fun x=>decide (x.2.2.2.1≤c)) l i=(a:Int)∧∀k,vhd u0 u1 l c i k=k (.inl ((a:Int),(a:Int),c)))∨
  ((∃b:Int,∀k,vhd u0 u1 l c i k=k (.inr (b,c)))∧atF (fun x=>decide (x.2.2.2.1≤c)) l i = -1)
 |[],i=>.inr ⟨⟨_,fun k=>rfl⟩,rfl⟩
 |y::l,i=>by
  have ih:=vtr (u0:=u0) (u1:=u1) (c:=c) l (i+1)
  simp only [vhd,atF,vzg]
  cases decide (y.2.2.2.1≤c)
  ·exact ih
  ·exact .inl ⟨i,rfl,fun k=>rfl⟩
theorem v6v {l:List tTxn.D}(c:Int)(hl:l.length≤1048576) (k):vo4 l c k=k (atF (fun x=>decide (x.2.2.2.1≤c)) l 0,c):=by
 rw [wgk (by omega)]
 unfold v6z
 rcases vtr (u0:=l) (u1:=0) (c:=c) l 0 with⟨a,ha,h⟩|⟨⟨b,h⟩,ha⟩<;>rw [h,ha]<;>rfl
theorem wd4 {l:List tTxn.D}(hl:l.length≤1048576)(c:Int) :
  ∃s,(s = .inl (l.filter (fun x=>!(decide (x.2.2.2.1≤c))),c)∨s = .inr (c,l.filter (fun x=>!(decide (x.2.2.2.1≤c)))))∧∀k,vsy l c k=k s:=by
 rcases wdb (fun x=>decide (x.2.2.2.1≤c)) l 0 with⟨h,hn⟩|⟨a,ha,h,h1,h2⟩
 ·refine⟨.inl (l,c),.inl (by rw [v97 hn]),fun k=>?_⟩
  rw [wbw]
  unfold v0j
  rw [v6v c hl]
  simp only [h]
  rfl
 ·obtain⟨b',i',xs',dd',⟨q1,q2,q3⟩,hK⟩:=vvh (c:=c) (p:=fun x=>decide (x.2.2.2.1≤c)) hl (B:=vev)
   (fun b i j xs dd k hi hj hx hd hp=>by
    have hw1:IntKind.wrap .i64 ((i:Int)+1)=((i+1:Nat):Int):=vb2 (by omega)
    have hw2:IntKind.wrap .i64 ((j:Int)+1)=((j+1:Nat):Int):=vb2 (by omega)
    cases b<;>simp only [vev,tagS,cond_true,cond_false,Sum.elim_inl,Sum.elim_inr,show (j:Int)<(xs.length:Int) by omega,show (0:Int)≤(j:Int) by omega,show (i:Int)<(xs.length:Int) by omega,show (0:Int)≤(i:Int) by omega,and_self,if_true,decide_true,Int.toNat_natCast,hd,vzg,hp,Bool.not_false,hw1,hw2])
   (fun b i j xs dd k hj hx hd hp=>by
    have hw2:IntKind.wrap .i64 ((j:Int)+1)=((j+1:Nat):Int):=vb2 (by omega)
    cases b<;>simp only [vev,tagS,cond_true,cond_false,Sum.elim_inl,Sum.elim_inr,show (j:Int)<(xs.length:Int) by omega,show (0:Int)≤(j:Int) by omega,and_self,if_true,decide_true,Int.toNat_natCast,hd,vzg,hp,Bool.not_true,hw2])
   (fun b i j xs dd k hj=>by
    cases b<;>simp only [vev,tagS,cond_true,cond_false,Sum.elim_inl,Sum.elim_inr,show ¬(j:Int)<(xs.length:Int) by omega,decide_false])
   (l.length-(a+1)) l a (a+1) [] false Fuel rfl (DelAt.start ha h1 h2) (Nat.lt_of_lt_of_le (by omega) vd6)
  refine⟨.inr (c,l.filter (fun x=>!(decide (x.2.2.2.1≤c)))),.inr rfl,fun k=>?_⟩
  have hw1:IntKind.wrap .i64 ((a:Int)+1)=((a+1:Nat):Int):=vb2 (by omega)
  have hne:((a:Int)==(-1:Int))=false:=by rw [beq_eq_false_iff_ne];omega
  have ez:((0+a:Nat):Int)=(a:Int):=by omega
  have hlen:((xs'.take i'++List.replicate (xs'.length-i') (Ty.zero tTxn)).length:Nat)=xs'.length:=by rw [List.length_append,List.length_take,List.length_replicate];omega
  have htk:(xs'.take i'++List.replicate (xs'.length-i') (Ty.zero tTxn)).take i'=l.filter (fun x=>!(decide (x.2.2.2.1≤c))):=by
   rw [List.take_append_of_le_length (by rw [List.length_take];omega),List.take_take,Nat.min_self,q2]
  rw [wbw]
  unfold v0j
  rw [v6v c hl]
  simp only [tagS,cond_false]at hK
  simp only [h,ez,hne,cond_false,hw1,hK]
  cases b'<;>simp only [tagS,cond_true,cond_false,Sum.elim_inl,Sum.elim_inr,show (0:Int)≤(i':Int) by omega,show (i':Int)≤(xs'.length:Int) by omega,and_self,if_true,Int.toNat_natCast,hlen,q3,geD,htk]
theorem wdg {b:tBase.D}(h:OkBs b) (k):vs9 b k=k (b.2.2.2.1,b.2.2.2.2,b.1,b.2.1,b.2.2.1):=by
 rw [v67]
 unfold v0h
 rw [if_pos (by have h1:=h.1;have:VE.maxLen=4294967296:=rfl;simp only [List.length_nil];omega)]
 simp only [v7v h.2.1,v7v h.2.2,List.nil_append]
theorem wed {b:tBase.D}(h:OkBs b) (k):vwq b k=k (b.2.2.2.1,b.2.2.2.2,b.1,b.2.1,b.2.2.1):=by
 rw [v6n]
 unfold v2p
 rw [if_pos (by have h1:=h.1;have:VE.maxLen=4294967296:=rfl;omega)]
 simp only [v7f h.2.1,v7f h.2.2]
theorem v6q {b:tBase.D}(h:OkBs b) (k):ve2 b b k=k true:=by
 rw [v10]
 simp [vwy,vjn h.1,vv2 h.2.1,vv2 h.2.2]
end
end Go.VE
/- Plain laws: bases tidied;who leaves. -/
namespace Go.VE
noncomputable section
set_option linter.unusedVariables false
set_option linter.unusedSimpArgs false
set_option maxRecDepth 100000
theorem vqp {o:Int} {u2 u3 u4 u5 u6 u7 u8 u9 u10 u11 u13}:∀(l acc:List tTxn.D) (i:Nat),(∀y∈l,y.2.2.2.2.1.length≤1048576∧y.2.2.2.2.2.1.length≤1048576)→acc.length+l.length≤1048576→
  ∃j:Int,∀K,vey o u2 u3 u4 u5 u6 u7 u8 u9 u10 u11 u13 l acc i K=K (j,acc++l.filter (fun x=>!(decide (x.2.2.2.1≤o))))
 |[],acc,i,_,_=>⟨_,fun K=>by simp only [vey,List.filter_nil,List.append_nil];rfl⟩
 |y::l,acc,i,hw,h=>by
  simp only [List.length_cons]at h
  have hy:=hw y (by simp)
  by_cases hs:y.2.2.2.1≤o
  ·obtain⟨j,hj⟩:=vqp (o:=o) (u2:=u2) (u3:=u3) (u4:=u4) (u5:=u5) (u6:=u6) (u7:=u7) (u8:=u8) (u9:=u9) (u10:=u10) (u11:=u11) (u13:=u13) l acc (i+1) (fun z hz=>hw z (by simp [hz])) (by omega)
   have hn:decide (y.2.2.2.1>o)=false:=decide_eq_false (Int.not_lt.2 hs)
   exact⟨j,fun K=>by simp only [vey,hn,cond_false,hj,List.filter_cons,decide_eq_true hs,Bool.not_true,Bool.false_eq_true,if_false]⟩
  ·obtain⟨j,hj⟩:=vqp (o:=o) (u2:=u2) (u3:=u3) (u4:=u4) (u5:=u5) (u6:=u6) (u7:=u7) (u8:=u8) (u9:=u9) (u10:=u10) (u11:=u11) (u13:=u13) l (acc++[y]) (i+1) (fun z hz=>hw z (by simp [hz])) (by rw [List.length_append,List.length_singleton];omega)
   have hn:decide (y.2.2.2.1>o)=true:=decide_eq_true (Int.not_le.1 hs)
   refine⟨j,fun K=>?_⟩
   simp only [vey,hn,cond_true,v7i hy.1 hy.2,vl3]
   rw [if_pos (by rw [List.length_singleton];have:VE.maxLen=4294967296:=rfl;omega),hj]
   simp only [List.filter_cons,decide_eq_false hs,Bool.not_false,if_true,List.append_assoc,List.singleton_append]
def v7l (b:tBase.D)(o:Int):List tTxn.D:=b.2.1.filter (fun x=>!(decide (x.2.2.2.1≤o)))
def vio (b:tBase.D)(l:List tTxn.D):tBase.D:=(v61 b.1 (vdn b.2.2.2.1 l),(v7l b (vdn b.2.2.2.1 l),b.2.2))
theorem wdo {b:tBase.D}(h:OkBs b){l:List tTxn.D}(hl:l.length≤1048576) (k):vpg b l k=k (b.2.2.2.1,b.2.2.2.2,(vio b l).1,(vio b l).2.1,b.2.2.1):=by
 rw [wfj (by have:=h.2.1.2;omega)]
 unfold v46
 simp only [wdg h,wd6 hl]
 obtain⟨j,hj⟩:=vqp (o:=vdn b.2.2.2.1 l) (u2:=b.1) (u3:=b.2.1) (u4:=b.2.2.1) (u5:=b.2.2.2.1) (u6:=b.2.2.2.2) (u7:=0) (u8:=0) (u9:=b.2.2.2.1) (u10:=b.2.2.2.2) (u11:=b.1) (u13:=b.2.2.1) b.2.1 [] 0 h.2.1.1 (by simpa using h.2.1.2)
 simp only [hj,List.nil_append,wdi h.1,vio,v7l]
theorem wdm {b:tBase.D}(h:OkBs b){l:List tTxn.D}(hl:l.length≤1048576) (k):vnx b l k=k (b.2.2.2.1,b.2.2.2.2,(vio b l).1,(vio b l).2.1,b.2.2.1):=by
 rw [v5e]
 unfold v0u
 simp only [wed h,wd5 hl]
 obtain⟨s,hs,hk⟩:=wd4 (l:=b.2.1) h.2.1.2 (vdn b.2.2.2.1 l)
 rw [hk]
 rcases hs with rfl|rfl<;>simp only [Sum.elim_inl,Sum.elim_inr,wdj h.1,vio,v7l]
theorem v8y {b:tBase.D}(h:OkBs b)(l:List tTxn.D):OkBs (vio b l)∧cntB (vio b l)≤cntB b:=
 ⟨⟨Nat.le_trans (vxw _ _) h.1,v0e h.2.1 _,h.2.2⟩,by
  have h1:=vpi (fun x=>!(decide (x.2.2.2.1≤vdn b.2.2.2.1 l))) b.2.1
  have h2:=vxw b.1 (vdn b.2.2.2.1 l)
  show 4*((v61 b.1 (vdn b.2.2.2.1 l)).length:Int)+cntT (v7l b (vdn b.2.2.2.1 l))+cntT b.2.2.1≤4*(b.1.length:Int)+cntT b.2.1+cntT b.2.2.1
  unfold v7l
  omega⟩
end
end Go.VE
/- The plain laws. -/
namespace Go.VE
set_option linter.unusedVariables false
set_option linter.unusedSimpArgs false
set_option maxRecDepth 100000
theorem vmk (x:tBase.D)(y:List tTxn.D)(hx:tBase.wf x)(hy:(Ty.slice tTxn).wf y)(k:Bool→Option Res):vw6 x y k=k true:=by
 rw [wew]
 unfold v5l
 obtain⟨r0,q0,p0⟩:=v7k hx (a:=1048576) (by omega) (by omega)
 rw [q0]
 rcases p0 with p0|⟨p0,e0⟩
 ·simp [p0]
 have c0:¬r0<0:=by omega
 simp only [c0,decide_false,cond_false]
 obtain⟨r1,q1,p1⟩:=vqz hy (a:=r0) p0 (by omega)
 rw [q1]
 rcases p1 with p1|⟨p1,e1⟩
 ·simp [p1]
 have c1:¬r1<0:=by omega
 simp only [c1,decide_false,cond_false]
 have wx:tBase.wt x≤1048576:=by omega
 have wy:(Ty.slice tTxn).wt y≤1048576:=by omega
 have ly:=vex wy
 have my:=fun u hu=>vgv (xs:=y) (x:=u) hu wy
 have hok0:=weg wx
 have hoky:=vzt wy
 obtain⟨hok,hcnt⟩:=v8y hok0 y
 have hcx:=wei x
 have hcy:=vz0 (l:=y)
 have hpx:=v0k x
 have hpy:=vdo y
 have hpe:=v0k (vio x y)
 have hE:∀k,ve2 ((vio x y).1,((vio x y).2.1,(x.2.2.1,(x.2.2.2.1,x.2.2.2.2)))) ((vio x y).1,((vio x y).2.1,(x.2.2.1,(x.2.2.2.1,x.2.2.2.2)))) k=k true:=fun k=>v6q hok k
 have hM0:=fun a0 a1 k=>vqu hok0 (c:=1) (by omega) (by omega) a0 a1 k
 have hMy:∀k,vlo (1+cntB x) y k=k (1+cntB x+cntT y,vlh (1+cntB x) y):=fun k=>vfj hoky.1 hoky.2 (c:=1+cntB x) (by omega) (by omega) k
 generalize hg:cntB (vio x y)=g at *
 generalize hm:vln 1 (vio x y)=m at *
 have hM1:∀a0 a1 k,vlw a0 a1 1 (vio x y).1 (vio x y).2.1 x.2.2.1 k=k (1+g,m.1,m.2.1,m.2.2.1):=fun a0 a1 k=>by
  have:=vqu hok (c:=1) (by omega) (by rw [hg];omega) a0 a1 k
  rw [hg,hm]at this
  exact this
 have hH:∀z1 z2 k,vlp (m.1,(m.2.1,(m.2.2.1,(z1,z2)))) 1 k=k (1+g):=fun z1 z2 k=>by
  have:=vx7 hok (c:=1) (by omega) (by rw [hg];omega) (z1,z2) k
  rw [hg,hm]at this
  exact this
 have n0:decide (1+cntB x+cntT y<0)=false:=decide_eq_false (by omega)
 have n1:decide (1+g<0)=false:=decide_eq_false (by omega)
 simp only [v93 wx,vqa ly my,wdo hok0 ly,wdm hok0 ly,vl3,hE,v96 wx,vkr ly my,Bool.not_true,Bool.not_false,bne_self_eq_false,cond_true,cond_false,hM0,hMy,n0,vdp,hM1,hH,n1]
end Go.VE
