/- The plain laws behind FnExactStoreNew. -/
import Derived.Test.YtcccpkohlkfhoaaStoreNewL
/- Plain laws: keys,ranges,writes,transactions,who is ahead of whom. -/
namespace Go.VE
noncomputable section
set_option linter.unusedVariables false
set_option linter.unusedSimpArgs false
set_option maxRecDepth 100000
def viu (n lo hi:Int):Bool:=decide (n≥lo)&&decide (n≤hi)
theorem v44 (a b c) (k):vr9 a b c k=k (viu a b c):=by
 rw [vyk];unfold vud viu;cases decide (a≥b)<;>rfl
theorem v47 (a b c) (k):vq5 a b c k=k (viu a b c):=by
 rw [v0o];unfold vup viu;cases decide (a≥b)<;>rfl
end
end Go.VE
/- Plain laws: one of a list that passes a test;what is seen;the oldest. -/
namespace Go.VE
noncomputable section
set_option linter.unusedVariables false
set_option linter.unusedSimpArgs false
set_option maxRecDepth 100000
theorem v4c (k):vp9 k=k ((0:Int),(1:Int)):=by rw [vzq];rfl
theorem v4i (k):vqd k=k ((0:Int),(1:Int)):=by rw [vz5];rfl
theorem v4j (k):vqg k=k ((0:Int),(1:Int)):=by rw [vxz];unfold vu7;rw [v4c]
theorem v4u (k):vq8 k=k ((0:Int),(1:Int)):=by rw [vy9];unfold vvk;rw [v4i]
theorem vlp:∃n,Fuel=n+1:=⟨Fuel-1,by have:=vds;omega⟩
theorem vju (a:Int) (k):vrf a k=k a:=by
 obtain⟨n,hn⟩:=vlp
 rw [vyp]
 simp [vty,hn,vai,vlj]
theorem vjr (a:Int) (k):vkt a k=k a:=by
 obtain⟨n,hn⟩:=vlp
 rw [v0k]
 simp [vvx,hn,vai,vma]
theorem vrh (a b c:Int) (k):vri a b c k=k c:=by
 rw [vys]
 simp only [vuy,vju,vjr]
theorem vmm (a b c:Int) (k):vqb a b c k=k c:=by
 rw [vxt]
 simp only [vv0,vrh,vjr]
theorem vjz (a:Int) (k):vnq ([]:List vaf) a k=k a:=by
 rw [v5n (by simp)]
 rfl
theorem vjh (a:Int) (k):vje ([]:List dTxn) a k=k a:=by
 rw [v68 (by simp)]
 rfl
theorem vrm (y:Int×Int){a:Int}(ha:0≤a) (k):vr6 (([]:List vaf),(([]:List dTxn),(([]:List dTxn),y))) a k=k a:=by
 have c:¬a<0:=by omega
 rw [vyx]
 simp only [vue,vjz,vjh,c,decide_false,cond_false]
theorem vmk (y:Int×Int){a:Int}(ha:0≤a) (k):vrd ((([]:List vaf),(([]:List dTxn),(([]:List dTxn),y))),([]:List dTxn)) a k=k a:=by
 have c:¬a<0:=by omega
 rw [vyf]
 simp only [vur,vrm y ha,vjh,c,decide_false,cond_false]
end
end Go.VE
/- Plain laws of the draws: each gives,whatever the bytes. -/
namespace Go.VE
noncomputable section
set_option linter.unusedVariables false
set_option linter.unusedSimpArgs false
set_option maxRecDepth 100000
def Gives {α:Type}(F:(α→Option Res)→Option Res)(Q:α→Prop):Prop:=∃v,Q v∧∀k,F k=k v
theorem vgj {α:Type}{v:α}{Q:α→Prop}(h:Q v):Gives (fun k=>k v) Q:=⟨v,h,fun _=>rfl⟩
theorem Gives.bind {α β:Type}{F:(β→Option Res)→Option Res}{R:β→Prop}(hF:Gives F R){H:β→(α→Option Res)→Option Res}{Q:α→Prop}(hH:∀v,R v→Gives (H v) Q):Gives (fun k=>F fun v=>H v k) Q:=by
 obtain⟨v,h1,h2⟩:=hF
 obtain⟨y,h3,h4⟩:=hH v h1
 exact⟨y,h3,fun k=>(h2 _).trans (h4 k)⟩
theorem vki {α:Type}{c:Bool}{F G:(α→Option Res)→Option Res}{Q:α→Prop}(hF:c=true→Gives F Q)(hG:c=false→Gives G Q):Gives (fun k=>bif c then F k else G k) Q:=by
 cases c
 ·exact hG rfl
 ·exact hF rfl
theorem vrg {α:Type}{c:Prop} [Decidable c]{F:(α→Option Res)→Option Res}{Q:α→Prop}(hc:c)(hF:Gives F Q):Gives (fun k=>if c then F k else none) Q:=by
 simp only [hc,if_true];exact hF
theorem Gives.mono {α:Type}{F:(α→Option Res)→Option Res}{Q R:α→Prop}(h:Gives F Q)(hq:∀v,Q v→R v):Gives F R:=by
 obtain⟨v,h1,h2⟩:=h
 exact⟨v,hq v h1,h2⟩
theorem vnk {β γ:Type}{b:β→(β⊕γ→Option Res)→Option Res}{x:β}{n:Nat}{Q:γ→Prop}(h:Gives (b x) (fun r=>(∀y,r = .inl y→Gives (vai b n y) Q)∧∀z,r = .inr z→Q z)):Gives (vai b (n+1) x) Q:=by
 obtain⟨v,h1,h2⟩:=h
 cases v with
 |inl y=>
  obtain⟨w,h3,h4⟩:=h1.1 y rfl
  exact⟨w,h3,fun k=>by rw [vai,h2];exact h4 k⟩
 |inr z=>exact⟨z,h1.2 z rfl,fun k=>by rw [vai,h2];rfl⟩
theorem v6j {β γ:Type}{Q:γ→Prop}{G:β→Prop}{y:β}(h:G y):(∀x,(Sum.inl y:β⊕γ) = .inl x→G x)∧∀z,(Sum.inl y:β⊕γ) = .inr z→Q z:=⟨fun _ e=>by cases e;exact h,fun _ e=>(nomatch e)⟩
theorem v3y {β γ:Type}{Q:γ→Prop}{G:β→Prop}{z:γ}(h:Q z):(∀x,(Sum.inr z:β⊕γ) = .inl x→G x)∧∀w,(Sum.inr z:β⊕γ) = .inr w→Q w:=⟨fun _ e=>(nomatch e),fun _ e=>by cases e;exact h⟩
end
end Go.VE
/- Plain laws of the marks: what is marked in place is held. -/
namespace Go.VE
noncomputable section
set_option linter.unusedVariables false
set_option linter.unusedSimpArgs false
set_option maxRecDepth 100000
theorem vha (n:Int):(ves [n]).size=1:=rfl
theorem vo9:∀(m:Nat)(n:Int)(s:ByteArray)(q:Nat),n≤m→m<q→s.size+m≤100000000→Gives (vai vhs q (n,s)) (fun z=>z.2.size≤s.size+m):=by
 intro m
 induction m with
 |zero=>
  intro n s q hn hq hs
  obtain⟨q,rfl⟩:∃r,q=r+1:=⟨q-1,by omega⟩
  apply vnk
  unfold vhs
  exact vki (fun c=>by have c:=of_decide_eq_true c;dsimp only at c;omega) (fun _=>vgj (v3y (by dsimp only;omega)))
 |succ m ih=>
  intro n s q hn hq hs
  obtain⟨q,rfl⟩:∃r,q=r+1:=⟨q-1,by omega⟩
  apply vnk
  unfold vhs
  refine vki (fun c=>vrg ?_ (vgj (v6j ?_))) (fun _=>vgj (v3y (by dsimp only;omega)))
  ·rw [vha];dsimp only;omega
  ·have c:=of_decide_eq_true c
   dsimp only at c
   have e:n.tdiv 10=n / 10:=Int.tdiv_eq_ediv_of_nonneg (by omega)
   dsimp only
   rw [e,vqs (by omega) (by omega)]
   refine(ih (n / 10) _ q (by omega) (by omega) (by rw [ByteArray.size_append,vha];omega)).mono (fun z hz=>?_)
   rw [ByteArray.size_append,vha]at hz
   omega
theorem vv7 {n:Int}(h:n≤10000000):Gives (vbq n) (fun _=>True):=by
 rw [v0f]
 unfold vvn
 refine vki (fun _=>vgj trivial) (fun _=>(vo9 10000000 n _ Fuel (by omega) (by have:=vds;omega) (by decide)).bind (fun z hz=>vrg ?_ (vgj trivial)))
 have:(⟨#[109]⟩:ByteArray).size=1:=rfl
 have:(⟨#[]⟩:ByteArray).size=0:=rfl
 omega
open Classical in
def v14 (n:Int):ByteArray:=if h:∃v,∀k,vbq n k=k v then Classical.choose h else⟨#[]⟩
theorem vkn {n:Int}(h:n≤10000000) (k):vbq n k=k (v14 n):=by
 obtain⟨v,_,hv⟩:=vv7 h
 have h1:∃v,∀k,vbq n k=k v:=⟨v,hv⟩
 unfold v14
 rw [dif_pos h1]
 exact Classical.choose_spec h1 k
theorem v4k {α:Type}(pre:List α)(y v:α)(l:List α):(pre++y::l).set pre.length v=pre++v::l:=by simp
end
end Go.VE
/- Plain laws: a new store. -/
namespace Go.VE
noncomputable section
set_option linter.unusedVariables false
set_option linter.unusedSimpArgs false
set_option maxRecDepth 100000
def zS:ByteArray:=ves (List.replicate 64 (0:Int))
theorem v62:repB (⟨#[0]⟩:ByteArray) 64=zS:=by rfl
theorem vx6 (n i:Nat):(List.replicate n (0:Int)).set i 0=List.replicate n 0:=by
 apply List.ext_getElem
 ·simp
 ·intro j h1 h2
  rw [List.getElem_set]
  split<;>simp
theorem vmg:∀(m i q:Nat),i+m=64→m<q→∃j:Int,∀K,vai vg7 q ((64:Int),(0:Int),(i:Int),List.replicate 64 (0:Int)) K=K ((64:Int),(0:Int),j,List.replicate 64 (0:Int)):=by
 intro m
 induction m with
 |zero=>
  intro i q hi hq
  obtain⟨q,rfl⟩:∃q',q=q'+1:=⟨q-1,by omega⟩
  refine⟨(i:Int),fun K=>?_⟩
  simp only [vai,vg7,show ¬(i:Int)<64 by omega,decide_false,cond_false,Sum.elim_inr]
 |succ m ih=>
  intro i q hi hq
  obtain⟨q,rfl⟩:∃q',q=q'+1:=⟨q-1,by omega⟩
  have hw:IntKind.wrap .i64 ((i:Int)+1)=((i+1:Nat):Int):=vfq (by omega)
  obtain⟨j,hj⟩:=ih (i+1) q (by omega) (by omega)
  refine⟨j,fun K=>?_⟩
  simp only [vai,vg7,show (i:Int)<64 by omega,decide_true,cond_true,List.length_replicate,show (0:Int)≤(i:Int) by omega,show (i:Int)<((64:Nat):Int) by omega,and_self,if_true,Int.toNat_natCast,vx6,hw,Sum.elim_inl]
  exact hj K
theorem v40 (k):vqi k=k zS:=by
 rw [vz1]
 unfold vuc
 rw [vx2]
 unfold vul
 obtain⟨j,hj⟩:=vmg 64 0 Fuel rfl (Nat.lt_of_lt_of_le (by omega) vds)
 have hz:((0:Nat):Int)=0:=rfl
 rw [hz]at hj
 rw [if_pos (by decide)]
 have he:List.replicate (64:Int).toNat (Ty.zero (.int .u8))=List.replicate 64 (0:Int):=rfl
 rw [he,hj]
 rfl
theorem vyu (k):vsd (⟨#[0]⟩:ByteArray) (64:Int) k=k zS:=by
 rw [vza]
 unfold vq0
 rw [if_pos (by decide),v62]
theorem vyn:∀(m i q:Nat),i+m=97→m<q→∃j:Int,∀K,vai vf9 q ((97:Int),(i:Int),List.replicate i zS) K=K ((97:Int),j,List.replicate 97 zS):=by
 intro m
 induction m with
 |zero=>
  intro i q hi hq
  obtain⟨q,rfl⟩:∃q',q=q'+1:=⟨q-1,by omega⟩
  have:i=97:=by omega
  subst this
  refine⟨((97:Nat):Int),fun K=>?_⟩
  simp only [vai,vf9,show ¬((97:Nat):Int)<97 by omega,decide_false,cond_false,Sum.elim_inr]
 |succ m ih=>
  intro i q hi hq
  obtain⟨q,rfl⟩:∃q',q=q'+1:=⟨q-1,by omega⟩
  have hw:IntKind.wrap .i64 ((i:Int)+1)=((i+1:Nat):Int):=vfq (by omega)
  obtain⟨j,hj⟩:=ih (i+1) q (by omega) (by omega)
  refine⟨j,fun K=>?_⟩
  have hm:(List.replicate i zS).length+[zS].length≤VE.maxLen:=by show _≤4294967296;simp;omega
  simp only [vai,vf9,show (i:Int)<97 by omega,decide_true,cond_true,v40,if_pos hm,hw,Sum.elim_inl,←List.replicate_succ']
  exact hj K
theorem vy4:∀(m i q:Nat),i+m=97→m<q→∃j:Int,∀K,vai vfg q ((97:Int),(i:Int),List.replicate i zS) K=K ((97:Int),j,List.replicate 97 zS):=by
 intro m
 induction m with
 |zero=>
  intro i q hi hq
  obtain⟨q,rfl⟩:∃q',q=q'+1:=⟨q-1,by omega⟩
  have:i=97:=by omega
  subst this
  refine⟨((97:Nat):Int),fun K=>?_⟩
  simp only [vai,vfg,show ¬((97:Nat):Int)<97 by omega,decide_false,cond_false,Sum.elim_inr]
 |succ m ih=>
  intro i q hi hq
  obtain⟨q,rfl⟩:∃q',q=q'+1:=⟨q-1,by omega⟩
  have hw:IntKind.wrap .i64 ((i:Int)+1)=((i+1:Nat):Int):=vfq (by omega)
  obtain⟨j,hj⟩:=ih (i+1) q (by omega) (by omega)
  refine⟨j,fun K=>?_⟩
  have hm:(List.replicate i zS).length+[zS].length≤VE.maxLen:=by show _≤4294967296;simp;omega
  simp only [vai,vfg,show (i:Int)<97 by omega,decide_true,cond_true,vyu,if_pos hm,hw,Sum.elim_inl,←List.replicate_succ']
  exact hj K
theorem v4h (k):vr3 k=k ((0:Int),(1:Int),List.replicate 97 zS):=by
 rw [vzk];unfold vt6
 simp only [v4j]
 rw [vx3];unfold vt3
 rw [vzd];unfold vu9
 rw [vzm];unfold vtw
 obtain⟨j,hj⟩:=vyn 97 0 Fuel rfl (Nat.lt_of_lt_of_le (by omega) vds)
 have hz:((0:Nat):Int)=0:=rfl
 rw [hz]at hj
 have hj':∀K,vai vf9 Fuel ((97:Int),(0:Int),([]:List ByteArray)) K=K ((97:Int),j,List.replicate 97 zS):=hj
 simp only [v47,show viu 97 1 100=true by decide,Bool.not_true,cond_false,hj']
theorem v4y (k):vmv k=k ((0:Int),(1:Int),List.replicate 97 zS):=by
 rw [v0g];unfold vvf
 simp only [v4u]
 rw [vzl];unfold vuj
 rw [vy0];unfold vvq
 obtain⟨j,hj⟩:=vy4 97 0 Fuel rfl (Nat.lt_of_lt_of_le (by omega) vds)
 have hz:((0:Nat):Int)=0:=rfl
 rw [hz]at hj
 have hj':∀K,vai vfg Fuel ((97:Int),(0:Int),([]:List ByteArray)) K=K ((97:Int),j,List.replicate 97 zS):=hj
 simp only [v44,show viu 97 1 100=true by decide,Bool.not_true,cond_false,hj']
def vih:Int→List ByteArray→List ByteArray
 |_,[]=>[]
 |c,y::l=>v14 c::vih (c+1) l
theorem vjo:∀(c:Int)(l:List ByteArray),(vih c l).length=l.length
 |_,[]=>rfl
 |c,y::l=>by simp [vih,vjo (c+1) l]
theorem vfa:∀(l pre:List ByteArray)(c:Int)(q:Nat),0≤c→c+l.length≤9000000→pre.length+l.length≤1048576→l.length<q→
  ∃j:Int,∀k,vai vhw q (c,(pre.length:Int),pre++l) k=k (c+l.length,j,pre++vih c l)
 |[],pre,c,q,h0,hc,hl,hq=>by
  obtain⟨q,rfl⟩:∃r,q=r+1:=⟨q-1,by omega⟩
  refine⟨pre.length,fun k=>?_⟩
  simp only [vai,vhw,List.append_nil,Int.lt_irrefl,decide_false,cond_false,Sum.elim_inr,List.length_nil,vih]
  simp
 |y::l,pre,c,q,h0,hc,hl,hq=>by
  obtain⟨q,rfl⟩:∃r,q=r+1:=⟨q-1,by omega⟩
  simp only [List.length_cons]at hc hl hq
  obtain⟨j,hj⟩:=vfa l (pre++[v14 c]) (c+1) q (by omega) (by omega) (by rw [List.length_append,List.length_singleton];omega) (by omega)
  refine⟨j,fun k=>?_⟩
  have hlt:(pre.length:Int)<((pre++y::l).length:Int):=by rw [List.length_append,List.length_cons];omega
  have w1:IntKind.wrap .i64 (c+1)=c+1:=vqs (by omega) (by omega)
  have w3:IntKind.wrap .i64 ((pre.length:Int)+1)=((pre.length+1:Nat):Int):=vfq (by omega)
  have hp:(0:Int)≤(pre.length:Int):=Int.natCast_nonneg _
  have hj':=hj k
  rw [List.length_append,List.length_singleton,List.append_assoc,List.singleton_append,List.append_assoc,List.singleton_append]at hj'
  simp only [vai,vhw,hlt,decide_true,cond_true,vkn (show c≤10000000 by omega),w1,Int.toNat_natCast,v4k,hp,and_self,if_true,w3,Sum.elim_inl]
  rw [hj']
  simp only [vih,List.length_cons]
  congr 2
  push_cast
  omega
theorem v43 {l:List ByteArray}(hl:l.length≤1048576){c:Int}(h0:0≤c)(hc:c≤5000000) (k):vr8 c l k=k (c+l.length,vih c l):=by
 rw [v0p]
 unfold vuh
 obtain⟨j,hj⟩:=vfa l [] c Fuel h0 (by omega) (by simpa using hl) (by have:=vds;omega)
 simp only [List.length_nil,List.nil_append]at hj
 rw [show ((0:Int))=((0:Nat):Int)from rfl,hj]
theorem ve8 {u0 u2}:∀(l:List ByteArray)(c:Int)(i:Nat),0≤c→c+l.length≤9000000→∃j:Int,∀k,veo u0 u2 (vih c l) c i k=k (.inr (c+l.length,j))
 |[],c,i,_,_=>⟨_,fun k=>by simp only [vih,veo,List.length_nil];simp;rfl⟩
 |y::l,c,i,h0,hc=>by
  simp only [List.length_cons]at hc
  obtain⟨j,hj⟩:=ve8 (u0:=u0) (u2:=u2) l (c+1) (i+1) (by omega) (by omega)
  have w1:IntKind.wrap .i64 (c+1)=c+1:=vqs (by omega) (by omega)
  refine⟨j,fun k=>?_⟩
  simp only [vih,veo,vkn (show c≤10000000 by omega),w1,vb9,Bool.not_true,cond_false,hj,List.length_cons]
  congr 3
  push_cast
  omega
theorem vq7 (a:Int) (k):vqn a k=k a:=by
 obtain⟨n,hn⟩:=vlp
 rw [vyj]
 simp only [vua,hn,vai,vlu]
 rfl
theorem vrz (a:Int) (k):vn9 ([]:List dPut) a k=k a:=by
 rw [v7a (by simp)]
 rfl
theorem vo2 {l:List ByteArray}(hl:l.length≤1048576) (k):vr4 (0:Int) (1:Int) (1:Int) l k=k (1+(l.length:Int),vih 1 l):=by
 rw [vy7]
 simp only [vvo,vmm]
 rw [vyr]
 simp only [vv3,v43 hl (show (0:Int)≤1 by decide) (show (1:Int)≤5000000 by decide),vq7]
theorem vpp {l:List ByteArray}(hl:l.length≤1048576) (k):vnx (((([]:List vaf),(([]:List dTxn),(([]:List dTxn),((0:Int),(1:Int))))),([]:List dTxn)),(vih 1 l,([]:List dPut))) (1:Int) k=k (1+(l.length:Int)):=by
 rw [vzz]
 have h1:=fun k=>vmk ((0:Int),(1:Int)) (a:=1) (by decide) k
 simp only [vux,h1,show decide ((1:Int)<0)=false by decide,cond_false]
 rw [vy5]
 have h2:∀k,vmq (vih 1 l) 1 k=k (1+(l.length:Int)):=fun k=>by
  rw [v5o (by rw [vjo];omega)]
  unfold vy2
  obtain⟨j,hj⟩:=ve8 (u0:=vih 1 l) (u2:=0) l 1 0 (by decide) (by omega)
  rw [hj];rfl
 simp only [vuk,h2,vrz,decide_eq_false (show ¬(1+(l.length:Int))<0 by omega),cond_false]
theorem vg4 {u0:List ByteArray}{u2:Bool}:∀(l:List ByteArray)(i:Nat),u0.drop i=l→∃z,∀k,vgf u0 u0 u2 l i k=k (.inr z)
 |[],i,h=>⟨_,fun k=>rfl⟩
 |y::l,i,h=>by
  have hlt:=vi7 h
  obtain⟨z,hz⟩:=vg4 (u2:=u2) l (i+1) (vfo h)
  have hy:=(vb5 h).2 (Ty.zero .str)
  have hy':rd (Ty.zero .str) u0 (i:Int)=y:=hy
  refine⟨z,fun k=>?_⟩
  simp only [vgf]
  rw [if_pos ⟨by omega,by omega⟩]
  simp only [hy',vb9,Bool.not_true,cond_false,hz]
theorem vs8 {l:List ByteArray}(hl:l.length≤1048576) (k):vnr (((([]:List vaf),(([]:List dTxn),(([]:List dTxn),((0:Int),(1:Int))))),([]:List dTxn)),(l,([]:List dPut))) (((([]:List vaf),(([]:List dTxn),(([]:List dTxn),((0:Int),(1:Int))))),([]:List dTxn)),(l,([]:List dPut))) k=k true:=by
 have hb:tEngine.wt ((([]:List vaf),(([]:List dTxn),(([]:List dTxn),((0:Int),(1:Int))))),([]:List dTxn))≤1048576:=by simp [Ty.wt]
 rw [vzf]
 simp only [vu1,vxj hb,Bool.not_true,cond_false]
 rw [vyg]
 have h2:∀k,vni l l k=k true:=fun k=>by
  rw [v58 (by omega)]
  obtain⟨z,hz⟩:=vg4 (u0:=l) (u2:=false) l 0 rfl
  simp [vzs,hz]
 have h3:∀k,vmt ([]:List dPut) [] k=k true:=fun k=>by
  rw [v6h (by simp)]
  rfl
 simp only [vuw,h2,h3,Bool.not_true,cond_false]
end
end Go.VE
/- The plain laws. -/
namespace Go.VE
set_option linter.unusedVariables false
set_option linter.unusedSimpArgs false
set_option maxRecDepth 100000
theorem vho (k:Bool→Option Res):vt1 k=k true:=by
 rw [v0e]
 unfold vut
 have hl:(List.replicate 97 zS).length≤1048576:=by simp
 simp only [v4h,v4y,vs8 hl,vo2 hl,vpp hl,Bool.not_true,cond_false,bne_self_eq_false,decide_eq_false (show ¬(1+((List.replicate 97 zS).length:Int))<0 by omega)]
end Go.VE
