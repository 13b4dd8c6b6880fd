/- The plain laws behind FnExactGivenUp. -/
import Derived.Test.YtbaniaofomgceaaGivenUpL
import Derived.Sort.Walk0
/- Plain laws: where a name or an Id stands;a transaction's text. -/
namespace Go.VE
noncomputable section
set_option linter.unusedVariables false
set_option linter.unusedSimpArgs false
set_option maxRecDepth 100000
def atF (p:tTxn.D→Bool):List tTxn.D→Nat→Int
 |[],_=>-1
 |y::l,i=>bif p y then(i:Int)else atF p l (i+1)
end
end Go.VE
/- Plain laws of the draws: each gives,whatever the bytes. -/
namespace Go.VE
noncomputable section
set_option linter.unusedVariables false
set_option linter.unusedSimpArgs false
set_option maxRecDepth 100000
def Gives {α:Type}(F:(α→Option Res)→Option Res)(Q:α→Prop):Prop:=∃v,Q v∧∀k,F k=k v
theorem vho {α:Type}{v:α}{Q:α→Prop}(h:Q v):Gives (fun k=>k v) Q:=⟨v,h,fun _=>rfl⟩
theorem Gives.bind {α β:Type}{F:(β→Option Res)→Option Res}{R:β→Prop}(hF:Gives F R){H:β→(α→Option Res)→Option Res}{Q:α→Prop}(hH:∀v,R v→Gives (H v) Q):Gives (fun k=>F fun v=>H v k) Q:=by
 obtain⟨v,h1,h2⟩:=hF
 obtain⟨y,h3,h4⟩:=hH v h1
 exact⟨y,h3,fun k=>(h2 _).trans (h4 k)⟩
theorem vob {α:Type}{c:Bool}{F G:(α→Option Res)→Option Res}{Q:α→Prop}(hF:c=true→Gives F Q)(hG:c=false→Gives G Q):Gives (fun k=>bif c then F k else G k) Q:=by
 cases c
 ·exact hG rfl
 ·exact hF rfl
theorem vvy {α:Type}{c:Prop} [Decidable c]{F:(α→Option Res)→Option Res}{Q:α→Prop}(hc:c)(hF:Gives F Q):Gives (fun k=>if c then F k else none) Q:=by
 simp only [hc,if_true];exact hF
theorem Gives.mono {α:Type}{F:(α→Option Res)→Option Res}{Q R:α→Prop}(h:Gives F Q)(hq:∀v,Q v→R v):Gives F R:=by
 obtain⟨v,h1,h2⟩:=h
 exact⟨v,hq v h1,h2⟩
theorem vq5 {β γ:Type}{b:β→(β⊕γ→Option Res)→Option Res}{x:β}{n:Nat}{Q:γ→Prop}(h:Gives (b x) (fun r=>(∀y,r = .inl y→Gives (vad b n y) Q)∧∀z,r = .inr z→Q z)):Gives (vad b (n+1) x) Q:=by
 obtain⟨v,h1,h2⟩:=h
 cases v with
 |inl y=>
  obtain⟨w,h3,h4⟩:=h1.1 y rfl
  exact⟨w,h3,fun k=>by rw [vad,h2];exact h4 k⟩
 |inr z=>exact⟨z,h1.2 z rfl,fun k=>by rw [vad,h2];rfl⟩
theorem wbu {β γ:Type}{Q:γ→Prop}{G:β→Prop}{y:β}(h:G y):(∀x,(Sum.inl y:β⊕γ) = .inl x→G x)∧∀z,(Sum.inl y:β⊕γ) = .inr z→Q z:=⟨fun _ e=>by cases e;exact h,fun _ e=>(nomatch e)⟩
theorem v8a {β γ:Type}{Q:γ→Prop}{G:β→Prop}{z:γ}(h:Q z):(∀x,(Sum.inr z:β⊕γ) = .inl x→G x)∧∀w,(Sum.inr z:β⊕γ) = .inr w→Q w:=⟨fun _ e=>(nomatch e),fun _ e=>by cases e;exact h⟩
end
end Go.VE
/- Plain laws of the marks: what is marked in place is held. -/
namespace Go.VE
noncomputable section
set_option linter.unusedVariables false
set_option linter.unusedSimpArgs false
set_option maxRecDepth 100000
theorem vjo (n:Int):(vjk [n]).size=1:=rfl
theorem vs4:∀(m:Nat) (n:Int) (s:ByteArray) (q:Nat),n≤m→m<q→s.size+m≤100000000→Gives (vad vjs q (n,s)) (fun z=>z.2.size≤s.size+m):=by
 intro m
 induction m with
 |zero=>
  intro n s q hn hq hs
  obtain⟨q,rfl⟩:∃r,q=r+1:=⟨q-1,by omega⟩
  apply vq5
  unfold vjs
  exact vob (fun c=>by have c:=of_decide_eq_true c;dsimp only at c;omega) (fun _=>vho (v8a (by dsimp only;omega)))
 |succ m ih=>
  intro n s q hn hq hs
  obtain⟨q,rfl⟩:∃r,q=r+1:=⟨q-1,by omega⟩
  apply vq5
  unfold vjs
  refine vob (fun c=>vvy ?_ (vho (wbu ?_))) (fun _=>vho (v8a (by dsimp only;omega)))
  ·rw [vjo];dsimp only;omega
  ·have c:=of_decide_eq_true c
   dsimp only at c
   have e:n.tdiv 10=n / 10:=Int.tdiv_eq_ediv_of_nonneg (by omega)
   dsimp only
   rw [e,vbh (by omega) (by omega)]
   refine(ih (n / 10) _ q (by omega) (by omega) (by rw [ByteArray.size_append,vjo];omega)).mono (fun z hz=>?_)
   rw [ByteArray.size_append,vjo]at hz
   omega
theorem v06 {n:Int}(h:n≤10000000):Gives (vbq n) (fun _=>True):=by
 rw [v10]
 unfold vzw
 refine vob (fun _=>vho trivial) (fun _=>(vs4 10000000 n _ Fuel (by omega) (by have:=vem;omega) (by decide)).bind (fun z hz=>vvy ?_ (vho trivial)))
 have:(⟨#[109]⟩:ByteArray).size=1:=rfl
 have:(⟨#[]⟩:ByteArray).size=0:=rfl
 omega
open Classical in
def vhr (n:Int):ByteArray:=if h:∃v,∀k,vbq n k=k v then Classical.choose h else⟨#[]⟩
theorem va4 {n:Int}(h:n≤10000000) (k):vbq n k=k (vhr n):=by
 obtain⟨v,_,hv⟩:=v06 h
 have h1:∃v,∀k,vbq n k=k v:=⟨v,hv⟩
 unfold vhr
 rw [dif_pos h1]
 exact Classical.choose_spec h1 k
theorem vse {α:Type}(pre:List α)(y v:α)(l:List α):(pre++y::l).set pre.length v=pre++v::l:=by simp
theorem vm4 {α:Type}(pre:List α)(y d:α)(l:List α):(pre++y::l).getD pre.length d=y:=by simp [List.getD]
def vlp:Int→List tRange.D→List tRange.D
 |_,[]=>[]
 |c,y::l=>(vhr c,vhr (c+1))::vlp (c+2) l
theorem vhm:∀(l pre:List tRange.D) (c:Int) (q:Nat),0≤c→c+2*l.length≤9000000→pre.length+l.length≤1048576→l.length<q→
  ∃j:Int,∀k,vad vjm q (c,(pre.length:Int),pre++l) k=k (c+2*l.length,j,pre++vlp c l)
 |[],pre,c,q,h0,hc,hl,hq=>by
  obtain⟨q,rfl⟩:∃r,q=r+1:=⟨q-1,by omega⟩
  refine⟨pre.length,fun k=>?_⟩
  simp only [vad,vjm,List.append_nil,Int.lt_irrefl,decide_false,cond_false,Sum.elim_inr,List.length_nil,vlp]
  simp
 |y::l,pre,c,q,h0,hc,hl,hq=>by
  obtain⟨q,rfl⟩:∃r,q=r+1:=⟨q-1,by omega⟩
  simp only [List.length_cons]at hc hl hq
  obtain⟨j,hj⟩:=vhm l (pre++[(vhr c,vhr (c+1))]) (c+2) q (by omega) (by omega) (by rw [List.length_append,List.length_singleton];omega) (by omega)
  refine⟨j,fun k=>?_⟩
  have hlt:(pre.length:Int)<((pre++y::l).length:Int):=by rw [List.length_append,List.length_cons];omega
  have hlt2:∀v:tRange.D,(pre.length:Int)<((pre++v::l).length:Int):=fun v=>by rw [List.length_append,List.length_cons];omega
  have w1:IntKind.wrap .i64 (c+1)=c+1:=vbh (by omega) (by omega)
  have w2:IntKind.wrap .i64 (c+1+1)=c+2:=by rw [vbh (by omega) (by omega)];omega
  have w3:IntKind.wrap .i64 ((pre.length:Int)+1)=((pre.length+1:Nat):Int):=vcp (by omega)
  have hp:(0:Int)≤(pre.length:Int):=Int.natCast_nonneg _
  have hj':=hj k
  rw [List.length_append,List.length_singleton,List.append_assoc,List.singleton_append,List.append_assoc,List.singleton_append]at hj'
  simp only [vad,vjm,hlt,decide_true,cond_true,va4 (show c≤10000000 by omega),w1,va4 (show c+1≤10000000 by omega),Int.toNat_natCast,vse,vm4,hlt2,hp,and_self,if_true,w2,w3,Sum.elim_inl]
  rw [hj']
  simp only [vlp,List.length_cons]
  congr 2
  push_cast
  omega
def vlm:Int→List tWrite.D→List tWrite.D
 |_,[]=>[]
 |c,y::l=>(vhr c,(vhr (c+1),((c+2).tmod 3==0)))::vlm (c+3) l
theorem vid:∀(l pre:List tWrite.D) (c:Int) (q:Nat),0≤c→c+3*l.length≤9000000→pre.length+l.length≤1048576→l.length<q→
  ∃j:Int,∀k,vad vjp q (c,(pre.length:Int),pre++l) k=k (c+3*l.length,j,pre++vlm c l)
 |[],pre,c,q,h0,hc,hl,hq=>by
  obtain⟨q,rfl⟩:∃r,q=r+1:=⟨q-1,by omega⟩
  refine⟨pre.length,fun k=>?_⟩
  simp only [vad,vjp,List.append_nil,Int.lt_irrefl,decide_false,cond_false,Sum.elim_inr,List.length_nil,vlm]
  simp
 |y::l,pre,c,q,h0,hc,hl,hq=>by
  obtain⟨q,rfl⟩:∃r,q=r+1:=⟨q-1,by omega⟩
  simp only [List.length_cons]at hc hl hq
  obtain⟨j,hj⟩:=vid l (pre++[(vhr c,(vhr (c+1),((c+2).tmod 3==0)))]) (c+3) q (by omega) (by omega) (by rw [List.length_append,List.length_singleton];omega) (by omega)
  refine⟨j,fun k=>?_⟩
  have hlt:(pre.length:Int)<((pre++y::l).length:Int):=by rw [List.length_append,List.length_cons];omega
  have hlt2:∀v:tWrite.D,(pre.length:Int)<((pre++v::l).length:Int):=fun v=>by rw [List.length_append,List.length_cons];omega
  have w1:IntKind.wrap .i64 (c+1)=c+1:=vbh (by omega) (by omega)
  have w2:IntKind.wrap .i64 (c+1+1)=c+2:=by rw [vbh (by omega) (by omega)];omega
  have w4:IntKind.wrap .i64 (c+2+1)=c+3:=by rw [vbh (by omega) (by omega)];omega
  have w3:IntKind.wrap .i64 ((pre.length:Int)+1)=((pre.length+1:Nat):Int):=vcp (by omega)
  have hp:(0:Int)≤(pre.length:Int):=Int.natCast_nonneg _
  have hj':=hj k
  rw [List.length_append,List.length_singleton,List.append_assoc,List.singleton_append,List.append_assoc,List.singleton_append]at hj'
  simp only [vad,vjp,hlt,decide_true,cond_true,va4 (show c≤10000000 by omega),w1,va4 (show c+1≤10000000 by omega),Int.toNat_natCast,vse,vm4,hlt2,hp,and_self,if_true,w2,w3,w4,Sum.elim_inl]
  rw [hj']
  simp only [vlm,List.length_cons]
  congr 2
  push_cast
  omega
theorem vil {u0 u2}:∀(l:List tRange.D) (c:Int) (i:Nat),0≤c→c+2*l.length≤9000000→∃j:Int,∀k,vgo u0 u2 (vlp c l) c i k=k (.inr (c+2*l.length,j))
 |[],c,i,_,_=>⟨_,fun k=>by simp only [vlp,vgo,List.length_nil];simp;rfl⟩
 |y::l,c,i,h0,hc=>by
  simp only [List.length_cons]at hc
  obtain⟨j,hj⟩:=vil (u0:=u0) (u2:=u2) l (c+2) (i+1) (by omega) (by omega)
  have w1:IntKind.wrap .i64 (c+1)=c+1:=vbh (by omega) (by omega)
  have w2:IntKind.wrap .i64 (c+1+1)=c+2:=by rw [vbh (by omega) (by omega)];omega
  refine⟨j,fun k=>?_⟩
  simp only [vlp,vgo,va4 (show c≤10000000 by omega),w1,va4 (show c+1≤10000000 by omega),vb7,Bool.not_true,cond_false,w2,hj,List.length_cons]
  congr 3
  push_cast
  omega
theorem vh8 {u0 u2}:∀(l:List tWrite.D) (c:Int) (i:Nat),0≤c→c+3*l.length≤9000000→∃j:Int,∀k,vgc u0 u2 (vlm c l) c i k=k (.inr (c+3*l.length,j))
 |[],c,i,_,_=>⟨_,fun k=>by simp only [vlm,vgc,List.length_nil];simp;rfl⟩
 |y::l,c,i,h0,hc=>by
  simp only [List.length_cons]at hc
  obtain⟨j,hj⟩:=vh8 (u0:=u0) (u2:=u2) l (c+3) (i+1) (by omega) (by omega)
  have w1:IntKind.wrap .i64 (c+1)=c+1:=vbh (by omega) (by omega)
  have w2:IntKind.wrap .i64 (c+1+1)=c+2:=by rw [vbh (by omega) (by omega)];omega
  have w4:IntKind.wrap .i64 (c+2+1)=c+3:=by rw [vbh (by omega) (by omega)];omega
  refine⟨j,fun k=>?_⟩
  simp only [vlm,vgc,va4 (show c≤10000000 by omega),w1,va4 (show c+1≤10000000 by omega),vb7,Bool.not_true,cond_false,w2,w4,hj,List.length_cons,beq_self_eq_true]
  congr 3
  push_cast
  omega
end
end Go.VE
/- Plain laws: a range is read. -/
namespace Go.VE
noncomputable section
set_option linter.unusedVariables false
set_option linter.unusedSimpArgs false
set_option maxRecDepth 100000
theorem v4x {t:tTxn.D}(hr:t.2.2.2.2.1.length≤1048576)(hw:t.2.2.2.2.2.1.length≤1048576) (k):vml t k=k (t.1,t.2.1,t.2.2.1,t.2.2.2.1,t.2.2.2.2.2.2.1,t.2.2.2.2.2.2.2,t.2.2.2.2.1,t.2.2.2.2.2.1):=by
 rw [v28]
 unfold vz2
 rw [if_pos (by simp only [List.length_nil,VE.maxLen];omega),if_pos (by simp only [List.length_nil,VE.maxLen];omega)]
 rfl
theorem v9j {t:tTxn.D}(hr:t.2.2.2.2.1.length≤1048576)(hw:t.2.2.2.2.2.1.length≤1048576) (k):vrk t k=k (t.1,t.2.1,t.2.2.1,t.2.2.2.1,t.2.2.2.2.2.2.1,t.2.2.2.2.2.2.2,t.2.2.2.2.1,t.2.2.2.2.2.1):=by
 rw [v4u]
 unfold vy3
 rw [if_pos (by simp only [VE.maxLen];omega),if_pos (by simp only [VE.maxLen];omega)]
end
end Go.VE
/- Plain laws: a transaction's marks. -/
namespace Go.VE
noncomputable section
set_option linter.unusedVariables false
set_option linter.unusedSimpArgs false
set_option maxRecDepth 100000
theorem vmd:∀(c:Int) (l:List tRange.D),(vlp c l).length=l.length
 |_,[]=>rfl
 |c,y::l=>by simp [vlp,vmd (c+2) l]
theorem vmf:∀(c:Int) (l:List tWrite.D),(vlm c l).length=l.length
 |_,[]=>rfl
 |c,y::l=>by simp [vlm,vmf (c+3) l]
end
end Go.VE
/- Plain laws: keys in order;what a scan sees. -/
namespace Go.VE
noncomputable section
set_option linter.unusedVariables false
set_option linter.unusedSimpArgs false
set_option maxRecDepth 100000
def ddT (p:ByteArray):List ByteArray→List ByteArray
 |[]=>[]
 |y::l=>bif vba y p then ddT y l else y::ddT y l
def dd:List ByteArray→List ByteArray
 |[]=>[]
 |a::l=>a::ddT a l
end
end Go.VE
/- Plain laws: marks of lists of transactions,of bases and engines that own all their slices. -/
namespace Go.VE
noncomputable section
set_option linter.unusedVariables false
set_option linter.unusedSimpArgs false
set_option maxRecDepth 100000
theorem vmt {l:List tRange.D}(hl:l.length≤1048576){c:Int}(h0:0≤c)(hc:c+2*l.length≤9000000) (k):vuz c l k=k (c+2*l.length,vlp c l):=by
 rw [v3e]
 unfold vzh
 obtain⟨j,hj⟩:=vhm l [] c Fuel h0 hc (by simpa using hl) (by have:=vem;omega)
 simp only [List.length_nil,List.nil_append]at hj
 rw [show ((0:Int))=((0:Nat):Int)from rfl,hj]
theorem vmu {l:List tWrite.D}(hl:l.length≤1048576){c:Int}(h0:0≤c)(hc:c+3*l.length≤9000000) (k):vu4 c l k=k (c+3*l.length,vlm c l):=by
 rw [v3g]
 unfold vzi
 obtain⟨j,hj⟩:=vid l [] c Fuel h0 hc (by simpa using hl) (by have:=vem;omega)
 simp only [List.length_nil,List.nil_append]at hj
 rw [show ((0:Int))=((0:Nat):Int)from rfl,hj]
def vl3 (t:tTxn.D):Int:=6+2*(t.2.2.2.2.1.length:Int)+3*(t.2.2.2.2.2.1.length:Int)
def cntT:List tTxn.D→Int
 |[]=>0
 |y::l=>vl3 y+cntT l
def vzc (c:Int)(t:tTxn.D):tTxn.D:=
 (c,(c+1,(c+2,(c+3,(vlp (c+4) t.2.2.2.2.1,(vlm (c+4+2*(t.2.2.2.2.1.length:Int)) t.2.2.2.2.2.1,
  ((c+4+2*(t.2.2.2.2.1.length:Int)+3*(t.2.2.2.2.2.1.length:Int)).tmod 3==0,vhr (c+4+2*(t.2.2.2.2.1.length:Int)+3*(t.2.2.2.2.2.1.length:Int)+1))))))))
def vk5:Int→List tTxn.D→List tTxn.D
 |_,[]=>[]
 |c,y::l=>vzc c y::vk5 (c+vl3 y) l
theorem vnm (t:tTxn.D):6≤vl3 t:=by unfold vl3;omega
theorem vdy:∀l:List tTxn.D,0≤cntT l
 |[]=>Int.le_refl _
 |y::l=>by have:=vnm y;have:=vdy l;simp only [cntT];omega
theorem vma:∀(c:Int) (l:List tTxn.D),(vk5 c l).length=l.length
 |_,[]=>rfl
 |c,y::l=>by simp [vk5,vma (c+vl3 y) l]
theorem v17:∀(l:List tTxn.D),cntT l≤6*(l.length+wtL tTxn l:Nat)
 |[]=>by simp [cntT,wtL]
 |y::l=>by
  have h:=v17 l
  have hw:=v1s y
  have h1:(Ty.slice tRange).wt y.2.2.2.2.1=y.2.2.2.2.1.length+wtL tRange y.2.2.2.2.1:=Ty.wt_slice _ _
  have h2:(Ty.slice tWrite).wt y.2.2.2.2.2.1=y.2.2.2.2.2.1.length+wtL tWrite y.2.2.2.2.2.1:=Ty.wt_slice _ _
  simp only [cntT,vl3,List.length_cons,wtL]
  push_cast at h ⊢
  omega
theorem vk3:∀(l pre:List tTxn.D) (c:Int) (q:Nat),(∀y∈l,y.2.2.2.2.1.length≤1048576∧y.2.2.2.2.2.1.length≤1048576)→0≤c→c+cntT l≤9000000→pre.length+l.length≤1048576→l.length<q→
  ∃j:Int,∀k,vad vh7 q (c,(pre.length:Int),pre++l) k=k (c+cntT l,j,pre++vk5 c l)
 |[],pre,c,q,hw,h0,hc,hl,hq=>by
  obtain⟨q,rfl⟩:∃r,q=r+1:=⟨q-1,by omega⟩
  refine⟨pre.length,fun k=>?_⟩
  simp only [vad,vh7,List.append_nil,Int.lt_irrefl,decide_false,cond_false,Sum.elim_inr,vk5,cntT]
  simp
 |y::l,pre,c,q,hw,h0,hc,hl,hq=>by
  obtain⟨q,rfl⟩:∃r,q=r+1:=⟨q-1,by omega⟩
  simp only [List.length_cons]at hl hq
  obtain⟨hy1,hy2⟩:=hw y (by simp)
  have hp1:=vdy l
  simp only [cntT]at hc
  obtain⟨j,hj⟩:=vk3 l (pre++[vzc c y]) (c+vl3 y) q (fun z hz=>hw z (by simp [hz])) (by have:=vnm y;omega) (by omega) (by rw [List.length_append,List.length_singleton];omega) (by omega)
  refine⟨j,fun k=>?_⟩
  have hlt:∀v:tTxn.D,(pre.length:Int)<((pre++v::l).length:Int):=fun v=>by rw [List.length_append,List.length_cons];omega
  have hcy:vl3 y=6+2*(y.2.2.2.2.1.length:Int)+3*(y.2.2.2.2.2.1.length:Int):=rfl
  have w1:IntKind.wrap .i64 (c+1)=c+1:=vbh (by omega) (by omega)
  have w2:IntKind.wrap .i64 (c+1+1)=c+2:=by rw [vbh (by omega) (by omega)];omega
  have w3:IntKind.wrap .i64 (c+2+1)=c+3:=by rw [vbh (by omega) (by omega)];omega
  have w4:IntKind.wrap .i64 (c+3+1)=c+4:=by rw [vbh (by omega) (by omega)];omega
  have w5:IntKind.wrap .i64 (c+4+2*(y.2.2.2.2.1.length:Int)+3*(y.2.2.2.2.2.1.length:Int)+1)=c+4+2*(y.2.2.2.2.1.length:Int)+3*(y.2.2.2.2.2.1.length:Int)+1:=vbh (by omega) (by omega)
  have w6:IntKind.wrap .i64 (c+4+2*(y.2.2.2.2.1.length:Int)+3*(y.2.2.2.2.2.1.length:Int)+1+1)=c+vl3 y:=by rw [vbh (by omega) (by omega)];omega
  have w7:IntKind.wrap .i64 ((pre.length:Int)+1)=((pre.length+1:Nat):Int):=vcp (by omega)
  have hp:(0:Int)≤(pre.length:Int):=Int.natCast_nonneg _
  have hj':=hj k
  rw [List.length_append,List.length_singleton,List.append_assoc,List.singleton_append,List.append_assoc,List.singleton_append]at hj'
  simp only [vad,vh7,hlt,decide_true,cond_true,hp,and_self,if_true,Int.toNat_natCast,vse,vm4,vcq,vc2,vcr,vc6,
   vc5,vcs,vcz,w1,w2,w3,w4,w7,
   vmt hy1 (show 0≤c+4 by omega) (show c+4+2*(y.2.2.2.2.1.length:Int)≤9000000 by omega),
   vmu hy2 (show 0≤c+4+2*(y.2.2.2.2.1.length:Int) by omega) (show c+4+2*(y.2.2.2.2.1.length:Int)+3*(y.2.2.2.2.2.1.length:Int)≤9000000 by omega),w5,
   va4 (show c+4+2*(y.2.2.2.2.1.length:Int)+3*(y.2.2.2.2.2.1.length:Int)+1≤10000000 by omega),w6,Sum.elim_inl]
  refine Eq.trans (b:=vad vh7 q (c+vl3 y,((pre.length+1:Nat):Int),pre++vzc c y::l) k) rfl ?_
  rw [hj']
  simp only [vk5,cntT]
  congr 2
  omega
theorem vja {l:List tTxn.D}(hw:∀y∈l,y.2.2.2.2.1.length≤1048576∧y.2.2.2.2.2.1.length≤1048576)(hl:l.length≤1048576){c:Int}(h0:0≤c)(hc:c+cntT l≤9000000) (k) :
  vru c l k=k (c+cntT l,vk5 c l):=by
 rw [v4i]
 unfold vy9
 obtain⟨j,hj⟩:=vk3 l [] c Fuel hw h0 hc (by simpa using hl) (by have:=vem;omega)
 simp only [List.length_nil,List.nil_append]at hj
 rw [show ((0:Int))=((0:Nat):Int)from rfl,hj]
end
end Go.VE
/- Plain laws: what is marked in versions,transactions,bases and engines is held. -/
namespace Go.VE
noncomputable section
set_option linter.unusedVariables false
set_option linter.unusedSimpArgs false
set_option maxRecDepth 100000
def vls:Int→List tVersion.D→List tVersion.D
 |_,[]=>[]
 |c,y::l=>(vhr c,(vhr (c+1),((c+2).tmod 3==0,c+3)))::vls (c+4) l
theorem vmq:∀(c:Int) (l:List tVersion.D),(vls c l).length=l.length
 |_,[]=>rfl
 |c,y::l=>by simp [vls,vmq (c+4) l]
theorem vds:∀(l pre:List tVersion.D) (c:Int) (q:Nat),0≤c→c+4*l.length≤9000000→pre.length+l.length≤1048576→l.length<q→
  ∃j:Int,∀k,vad vh3 q (c,(pre.length:Int),pre++l) k=k (c+4*l.length,j,pre++vls c l)
 |[],pre,c,q,h0,hc,hl,hq=>by
  obtain⟨q,rfl⟩:∃r,q=r+1:=⟨q-1,by omega⟩
  refine⟨pre.length,fun k=>?_⟩
  simp only [vad,vh3,List.append_nil,Int.lt_irrefl,decide_false,cond_false,Sum.elim_inr,List.length_nil,vls]
  simp
 |y::l,pre,c,q,h0,hc,hl,hq=>by
  obtain⟨q,rfl⟩:∃r,q=r+1:=⟨q-1,by omega⟩
  simp only [List.length_cons]at hc hl hq
  obtain⟨j,hj⟩:=vds l (pre++[(vhr c,(vhr (c+1),((c+2).tmod 3==0,c+3)))]) (c+4) q (by omega) (by omega) (by rw [List.length_append,List.length_singleton];omega) (by omega)
  refine⟨j,fun k=>?_⟩
  have hlt:∀v:tVersion.D,(pre.length:Int)<((pre++v::l).length:Int):=fun v=>by rw [List.length_append,List.length_cons];omega
  have w1:IntKind.wrap .i64 (c+1)=c+1:=vbh (by omega) (by omega)
  have w2:IntKind.wrap .i64 (c+1+1)=c+2:=by rw [vbh (by omega) (by omega)];omega
  have w3:IntKind.wrap .i64 (c+2+1)=c+3:=by rw [vbh (by omega) (by omega)];omega
  have w4:IntKind.wrap .i64 (c+3+1)=c+4:=by rw [vbh (by omega) (by omega)];omega
  have w5:IntKind.wrap .i64 ((pre.length:Int)+1)=((pre.length+1:Nat):Int):=vcp (by omega)
  have hp:(0:Int)≤(pre.length:Int):=Int.natCast_nonneg _
  have hj':=hj k
  rw [List.length_append,List.length_singleton,List.append_assoc,List.singleton_append,List.append_assoc,List.singleton_append]at hj'
  simp only [vad,vh3,hlt,decide_true,cond_true,va4 (show c≤10000000 by omega),w1,va4 (show c+1≤10000000 by omega),Int.toNat_natCast,vse,vm4,hp,and_self,if_true,w2,w3,w4,w5,Sum.elim_inl]
  refine Eq.trans (b:=vad vh3 q (c+4,((pre.length+1:Nat):Int),pre++(vhr c,(vhr (c+1),((c+2).tmod 3==0,c+3)))::l) k) rfl ?_
  rw [hj']
  simp only [vls,List.length_cons]
  congr 2
  push_cast
  omega
theorem vkp {l:List tVersion.D}(hl:l.length≤1048576){c:Int}(h0:0≤c)(hc:c+4*l.length≤9000000) (k):vv5 c l k=k (c+4*l.length,vls c l):=by
 rw [v3v]
 unfold vyo
 obtain⟨j,hj⟩:=vds l [] c Fuel h0 hc (by simpa using hl) (by have:=vem;omega)
 simp only [List.length_nil,List.nil_append]at hj
 rw [show ((0:Int))=((0:Nat):Int)from rfl,hj]
theorem vfw {u0 u2}:∀(l:List tVersion.D) (c:Int) (i:Nat),0≤c→c+4*l.length≤9000000→∃j:Int,∀k,vgt u0 u2 (vls c l) c i k=k (.inr (c+4*l.length,j))
 |[],c,i,_,_=>⟨_,fun k=>by simp only [vls,vgt,List.length_nil];simp;rfl⟩
 |y::l,c,i,h0,hc=>by
  simp only [List.length_cons]at hc
  obtain⟨j,hj⟩:=vfw (u0:=u0) (u2:=u2) l (c+4) (i+1) (by omega) (by omega)
  have w1:IntKind.wrap .i64 (c+1)=c+1:=vbh (by omega) (by omega)
  have w2:IntKind.wrap .i64 (c+1+1)=c+2:=by rw [vbh (by omega) (by omega)];omega
  have w3:IntKind.wrap .i64 (c+2+1)=c+3:=by rw [vbh (by omega) (by omega)];omega
  have w4:IntKind.wrap .i64 (c+3+1)=c+4:=by rw [vbh (by omega) (by omega)];omega
  refine⟨j,fun k=>?_⟩
  simp only [vls,vgt,va4 (show c≤10000000 by omega),w1,va4 (show c+1≤10000000 by omega),vb7,Bool.not_true,cond_false,w2,w3,w4,beq_self_eq_true,bne_self_eq_false,hj,List.length_cons]
  congr 3
  push_cast
  omega
theorem vn8 {l:List tVersion.D}(hl:l.length≤1048576){c:Int}(h0:0≤c)(hc:c+4*l.length≤9000000) (k):vr8 (vls c l) c k=k (c+4*(l.length:Int)):=by
 rw [wbp (by rw [vmq];omega)]
 unfold v2v
 obtain⟨j,hj⟩:=vfw (u0:=vls c l) (u2:=0) l c 0 h0 hc
 rw [hj];rfl
theorem vsm {l:List tRange.D}(hl:l.length≤1048576){c:Int}(h0:0≤c)(hc:c+2*l.length≤9000000) (k):vo6 (vlp c l) c k=k (c+2*(l.length:Int)):=by
 rw [wa3 (by rw [vmd];omega)]
 unfold v3y
 obtain⟨j,hj⟩:=vil (u0:=vlp c l) (u2:=0) l c 0 h0 hc
 rw [hj];rfl
theorem vtr {l:List tWrite.D}(hl:l.length≤1048576){c:Int}(h0:0≤c)(hc:c+3*l.length≤9000000) (k):vos (vlm c l) c k=k (c+3*(l.length:Int)):=by
 rw [wao (by rw [vmf];omega)]
 unfold v2n
 obtain⟨j,hj⟩:=vh8 (u0:=vlm c l) (u2:=0) l c 0 h0 hc
 rw [hj];rfl
theorem vkf {u0 u2}:∀(l:List tTxn.D) (c:Int) (i:Nat),(∀y∈l,y.2.2.2.2.1.length≤1048576∧y.2.2.2.2.2.1.length≤1048576)→0≤c→c+cntT l≤9000000→∃j:Int,∀k,vgh u0 u2 (vk5 c l) c i k=k (.inr (c+cntT l,j))
 |[],c,i,_,_,_=>⟨_,fun k=>by simp only [vk5,vgh,cntT];simp;rfl⟩
 |y::l,c,i,hw,h0,hc=>by
  obtain⟨hy1,hy2⟩:=hw y (by simp)
  have hp1:=vdy l
  simp only [cntT]at hc
  have hcy:vl3 y=6+2*(y.2.2.2.2.1.length:Int)+3*(y.2.2.2.2.2.1.length:Int):=rfl
  obtain⟨j,hj⟩:=vkf (u0:=u0) (u2:=u2) l (c+vl3 y) (i+1) (fun z hz=>hw z (by simp [hz])) (by omega) (by omega)
  have w1:IntKind.wrap .i64 (c+1)=c+1:=vbh (by omega) (by omega)
  have w2:IntKind.wrap .i64 (c+1+1)=c+2:=by rw [vbh (by omega) (by omega)];omega
  have w3:IntKind.wrap .i64 (c+2+1)=c+3:=by rw [vbh (by omega) (by omega)];omega
  have w4:IntKind.wrap .i64 (c+3+1)=c+4:=by rw [vbh (by omega) (by omega)];omega
  have w5:IntKind.wrap .i64 (c+4+2*(y.2.2.2.2.1.length:Int)+3*(y.2.2.2.2.2.1.length:Int)+1)=c+4+2*(y.2.2.2.2.1.length:Int)+3*(y.2.2.2.2.2.1.length:Int)+1:=vbh (by omega) (by omega)
  have w6:IntKind.wrap .i64 (c+4+2*(y.2.2.2.2.1.length:Int)+3*(y.2.2.2.2.2.1.length:Int)+1+1)=c+vl3 y:=by rw [vbh (by omega) (by omega)];omega
  have n1:decide (c+4+2*(y.2.2.2.2.1.length:Int)<0)=false:=decide_eq_false (by omega)
  have n2:decide (c+4+2*(y.2.2.2.2.1.length:Int)+3*(y.2.2.2.2.2.1.length:Int)<0)=false:=decide_eq_false (by omega)
  refine⟨j,fun k=>?_⟩
  simp only [vk5,vzc,vgh,w1,w2,w3,w4,bne_self_eq_false,cond_false,vsm hy1 (show 0≤c+4 by omega) (show c+4+2*(y.2.2.2.2.1.length:Int)≤9000000 by omega),n1,
   vtr hy2 (show 0≤c+4+2*(y.2.2.2.2.1.length:Int) by omega) (show c+4+2*(y.2.2.2.2.1.length:Int)+3*(y.2.2.2.2.2.1.length:Int)≤9000000 by omega),n2,beq_self_eq_true,Bool.not_true,w5,
   va4 (show c+4+2*(y.2.2.2.2.1.length:Int)+3*(y.2.2.2.2.2.1.length:Int)+1≤10000000 by omega),vb7,w6,hj,cntT]
  congr 3
  omega
theorem vov {l:List tTxn.D}(hw:∀y∈l,y.2.2.2.2.1.length≤1048576∧y.2.2.2.2.2.1.length≤1048576)(hl:l.length≤1048576){c:Int}(h0:0≤c)(hc:c+cntT l≤9000000) (k) :
  voy (vk5 c l) c k=k (c+cntT l):=by
 rw [wau (by rw [vma];omega)]
 unfold v1m
 obtain⟨j,hj⟩:=vkf (u0:=vk5 c l) (u2:=0) l c 0 hw h0 hc
 rw [hj];rfl
def OkTs (l:List tTxn.D):Prop:=(∀y∈l,y.2.2.2.2.1.length≤1048576∧y.2.2.2.2.2.1.length≤1048576)∧l.length≤1048576
theorem v3m {l:List tTxn.D}(h:(Ty.slice tTxn).wt l≤1048576):OkTs l:=
 ⟨fun y hy=>by
  have:=vij hy h
  rw [v1s]at this
  exact⟨ver (T:=tRange) (by omega),ver (T:=tWrite) (by omega)⟩,ver h⟩
theorem v4n {l:List tTxn.D}:cntT l≤6*((Ty.slice tTxn).wt l:Nat):=by
 have:=v17 l
 rw [Ty.wt_slice];exact this
def cntB (b:tBase.D):Int:=4*(b.1.length:Int)+cntT b.2.1+cntT b.2.2.1
def OkBs (b:tBase.D):Prop:=b.1.length≤1048576∧OkTs b.2.1∧OkTs b.2.2.1
def vk1 (c:Int)(b:tBase.D):tBase.D:=(vls c b.1,(vk5 (c+4*b.1.length) b.2.1,(vk5 (c+4*b.1.length+cntT b.2.1) b.2.2.1,b.2.2.2)))
theorem vym (b:tBase.D):0≤cntB b:=by unfold cntB;have:=vdy b.2.1;have:=vdy b.2.2.1;omega
theorem v9k {b:tBase.D}(h:tBase.wt b≤1048576):OkBs b:=by
 rw [vui]at h
 exact⟨ver (T:=tVersion) (by omega),v3m (by omega),v3m (by omega)⟩
theorem v98 (b:tBase.D):cntB b≤6*(tBase.wt b:Nat):=by
 have h1:=v4n (l:=b.2.1)
 have h2:=v4n (l:=b.2.2.1)
 have h3:(Ty.slice tVersion).wt b.1=b.1.length+wtL tVersion b.1:=Ty.wt_slice _ _
 have h4:=vui b
 unfold cntB
 omega
theorem vow {b:tBase.D}(hb:OkBs b){c:Int}(h0:0≤c)(hc:c+cntB b≤9000000)(a0 a1:Int) (k) :
  vkn a0 a1 c b.1 b.2.1 b.2.2.1 k=k (c+cntB b,(vk1 c b).1,(vk1 c b).2.1,(vk1 c b).2.2.1):=by
 obtain⟨hb1,hb2,hb3⟩:=hb
 have p1:=vdy b.2.1
 have p2:=vdy b.2.2.1
 have hcb:cntB b=4*(b.1.length:Int)+cntT b.2.1+cntT b.2.2.1:=rfl
 rw [v2f]
 unfold vxy
 simp only [vkp hb1 h0 (by omega),vja hb2.1 hb2.2 (show 0≤c+4*(b.1.length:Int) by omega) (by omega),vja hb3.1 hb3.2 (show 0≤c+4*(b.1.length:Int)+cntT b.2.1 by omega) (by omega),vk1]
 congr 2
 omega
theorem vxq {b:tBase.D}(hb:OkBs b){c:Int}(h0:0≤c)(hc:c+cntB b≤9000000)(z:Int×Int) (k) :
  vkr ((vk1 c b).1,((vk1 c b).2.1,((vk1 c b).2.2.1,z))) c k=k (c+cntB b):=by
 obtain⟨hb1,hb2,hb3⟩:=hb
 have p1:=vdy b.2.1
 have p2:=vdy b.2.2.1
 have hcb:cntB b=4*(b.1.length:Int)+cntT b.2.1+cntT b.2.2.1:=rfl
 have n1:decide (c+4*(b.1.length:Int)<0)=false:=decide_eq_false (by omega)
 have n2:decide (c+4*(b.1.length:Int)+cntT b.2.1<0)=false:=decide_eq_false (by omega)
 have n3:decide (c+4*(b.1.length:Int)+cntT b.2.1+cntT b.2.2.1<0)=false:=decide_eq_false (by omega)
 rw [v3i]
 unfold vyb
 simp only [vk1,vn8 hb1 h0 (by omega),n1,cond_false,vov hb2.1 hb2.2 (show 0≤c+4*(b.1.length:Int) by omega) (by omega),n2,vov hb3.1 hb3.2 (show 0≤c+4*(b.1.length:Int)+cntT b.2.1 by omega) (by omega),n3]
 congr 1
 omega
end
end Go.VE
/- Plain laws of engines: copies,comparisons,marks where lists are short;GetKey. -/
namespace Go.VE
noncomputable section
set_option linter.unusedVariables false
set_option linter.unusedSimpArgs false
set_option maxRecDepth 100000
theorem vvv {u0:List tTxn.D}:∀(l acc:List tTxn.D) (i:Nat),(∀y∈l,y.2.2.2.2.1.length≤1048576∧y.2.2.2.2.2.1.length≤1048576)→acc.length+l.length≤1048576→
  ∃j:Int,∀K,vgk u0 l acc i K=K (j,acc++l)
 |[],acc,i,_,_=>⟨_,fun K=>by simp only [vgk,List.append_nil];rfl⟩
 |y::l,acc,i,hw,h=>by
  simp only [List.length_cons]at h
  obtain⟨j,hj⟩:=vvv (u0:=u0) l (acc++[y]) (i+1) (fun z hz=>hw z (by simp [hz])) (by rw [List.length_append,List.length_singleton];omega)
  have hy:=hw y (by simp)
  refine⟨j,fun K=>?_⟩
  simp only [vgk,v4x hy.1 hy.2,vmx]
  rw [if_pos (by rw [List.length_singleton];have:VE.maxLen=4294967296:=rfl;omega),hj]
  simp only [List.append_assoc,List.singleton_append]
theorem v15 {l:List tTxn.D}(h:OkTs l) (k):vnv l k=k l:=by
 rw [wae (by have:=h.2;omega)]
 obtain⟨j,hj⟩:=vvv (u0:=l) l [] 0 h.1 (by simpa using h.2)
 simp only [v3t,hj,List.nil_append]
theorem vum {u0:List tTxn.D}:∀(l acc:List tTxn.D) (i:Nat),(∀y∈l,y.2.2.2.2.1.length≤1048576∧y.2.2.2.2.2.1.length≤1048576)→acc.length+l.length≤1048576→
  ∃j:Int,∀K,vgb u0 l acc i K=K (j,acc++l)
 |[],acc,i,_,_=>⟨_,fun K=>by simp only [vgb,List.append_nil];rfl⟩
 |y::l,acc,i,hw,h=>by
  simp only [List.length_cons]at h
  obtain⟨j,hj⟩:=vum (u0:=u0) l (acc++[y]) (i+1) (fun z hz=>hw z (by simp [hz])) (by rw [List.length_append,List.length_singleton];omega)
  have hy:=hw y (by simp)
  refine⟨j,fun K=>?_⟩
  simp only [vgb,v9j hy.1 hy.2,vmx]
  rw [if_pos (by rw [List.length_singleton];have:VE.maxLen=4294967296:=rfl;omega),hj]
  simp only [List.append_assoc,List.singleton_append]
theorem v4p {l:List tTxn.D}(h:OkTs l) (k):vnr l k=k l:=by
 rw [wbh (by have:=h.2;omega)]
 obtain⟨j,hj⟩:=vum (u0:=l) l [] 0 h.1 (by simpa using h.2)
 simp only [v24,hj,List.nil_append]
theorem vi6 {u0:List tTxn.D}(hu:OkTs u0){u2:Bool}:∀(l:List tTxn.D) (i:Nat),u0.drop i=l→∃z,∀k,vfn u0 u0 u2 l i k=k (.inr z)
 |[],i,h=>⟨_,fun k=>rfl⟩
 |y::l,i,h=>by
  have hlt:=vez h
  obtain⟨z,hz⟩:=vi6 hu (u2:=u2) l (i+1) (vc7 h)
  have hy:=(vbe h).1
  have hm:=hu.1 y (vjj h)
  refine⟨z,fun k=>?_⟩
  simp only [vfn]
  rw [if_pos ⟨by omega,by omega⟩]
  simp only [hy,vqm y hm.1 hm.2,Bool.not_true,cond_false,hz]
theorem vv1 {x:List tTxn.D}(h:OkTs x) (k):vmn x x k=k true:=by
 rw [v7x (by have:=h.2;omega)]
 obtain⟨z,hz⟩:=vi6 h (u2:=false) x 0 rfl
 simp [vzx,hz]
end
end Go.VE
/- Plain laws: the text of a transaction,there and back. -/
namespace Go.VE
noncomputable section
set_option linter.unusedVariables false
set_option linter.unusedSimpArgs false
set_option maxRecDepth 100000
def Back (s:ByteArray)(a c:Int)(P:List Int):Prop:=0≤a∧c=a+(P.length:Int)∧c≤(s.size:Int)∧(vdr s).drop a.toNat=P++(vdr s).drop c.toNat
theorem Back.at {s:ByteArray}{a c:Int}{P:List Int}(h:Back s a c P):0≤a∧a≤(s.size:Int)∧0≤c∧c≤(s.size:Int):=by
 obtain⟨a1,a2,a3,a4⟩:=h
 omega
theorem Back.nil {s:ByteArray}{a c:Int}(h:Back s a c []):c=a:=by have:=h.2.1;simp at this;exact this
end
end Go.VE
/- Plain laws: slices.DeleteFunc,its loop. -/
namespace Go.VE
noncomputable section
set_option linter.unusedVariables false
set_option linter.unusedSimpArgs false
set_option maxRecDepth 100000
def inD (lo hi:Nat)(dd:List Nat):Prop:=∀d∈dd,lo≤d∧d<hi
theorem v1n {lo hi:Nat}:∀{dd:List Nat},inD lo hi dd→hasD dd hi=false
 |[],_=>rfl
 |a::l,h=>by
  have h1:=h a (by simp)
  have hb:Nat.beq a hi=false:=by
   cases hb:Nat.beq a hi with
   |false=>rfl
   |true=>have:=Nat.eq_of_beq_eq_true hb;omega
  simp only [hasD,hb,v1n (dd:=l) (fun d hd=>h d (by simp [hd])),Bool.or_self]
theorem v75 {lo hi:Nat}:∀{dd:List Nat},inD lo hi dd→loD lo dd=[]
 |[],_=>rfl
 |a::l,h=>by
  have h1:=h a (by simp)
  have hb:Nat.blt a lo=false:=by
   cases hb:Nat.blt a lo with
   |false=>rfl
   |true=>rw [Nat.blt_eq]at hb;omega
  simp only [loD,hb,cond_false,v75 (dd:=l) (fun d hd=>h d (by simp [hd]))]
theorem v3p {lo hi:Nat}:∀{dd:List Nat},inD lo hi dd→inD (lo+1) (hi+1) (delD lo dd)
 |[],_=>fun d hd=>by simp [delD]at hd
 |a::l,h=>by
  have h1:=h a (by simp)
  have ih:=v3p (dd:=l) (fun d hd=>h d (by simp [hd]))
  intro d hd
  simp only [delD]at hd
  cases hb:Nat.beq a lo with
  |true=>rw [hb]at hd;exact ih d hd
  |false=>
   rw [hb]at hd
   simp only [cond_false,List.mem_cons]at hd
   rcases hd with rfl|hd
   ·have:d≠lo:=fun e=>by subst e;rw [Nat.beq_refl]at hb;cases hb
    omega
   ·exact ih d hd
structure DelAt {α:Type} (p:α→Bool) (xs0:List α) (i j:Nat) (xs:List α) (dd:List Nat):Prop where
 len:xs.length=xs0.length
 lt:i<j
 le:j≤xs0.length
 kept:xs.take i=(xs0.take j).filter fun x=>!p x
 rest:xs.drop j=xs0.drop j
 dead:inD i j dd
theorem DelAt.get {α:Type}{p:α→Bool}{xs0 xs:List α}{i j:Nat}{dd:List Nat}(h:DelAt p xs0 i j xs dd)(hj:j<xs0.length)(d:α):xs.getD j d=xs0[j]:=by
 have h1:=congrArg (fun l=>l[0]?) h.rest
 simp only [List.getElem?_drop,Nat.add_zero,List.getElem?_eq_getElem hj]at h1
 simp [List.getD,h1]
theorem vj8 {α:Type}(f:α→Bool)(xs:List α){j:Nat}(hj:j<xs.length):(xs.take (j+1)).filter f=(xs.take j).filter f++(if f xs[j]then [xs[j]]else []):=by
 rw [List.take_add_one,List.getElem?_eq_getElem hj,List.filter_append]
 congr 1
 cases hf:f xs[j]<;>simp [hf]
theorem DelAt.skip {α:Type}{p:α→Bool}{xs0 xs:List α}{i j:Nat}{dd:List Nat}(h:DelAt p xs0 i j xs dd)(hj:j<xs0.length)(hp:p xs0[j]=true):DelAt p xs0 i (j+1) xs dd where
 len:=h.len
 lt:=Nat.lt_succ_of_lt h.lt
 le:=hj
 kept:=by rw [vj8 _ _ hj,h.kept,hp];simp
 rest:=by rw [←List.drop_drop,←List.drop_drop,h.rest]
 dead:=fun d hd=>⟨(h.dead d hd).1,Nat.lt_succ_of_lt (h.dead d hd).2⟩
theorem DelAt.keep {α:Type}{p:α→Bool}{xs0 xs:List α}{i j:Nat}{dd:List Nat}(h:DelAt p xs0 i j xs dd)(hj:j<xs0.length)(hp:p xs0[j]=false):DelAt p xs0 (i+1) (j+1) (xs.set i xs0[j]) (j::j::delD i dd) where
 len:=by rw [List.length_set];exact h.len
 lt:=Nat.succ_lt_succ h.lt
 le:=hj
 kept:=by
  have hi:i<xs.length:=by have:=h.lt;have:=h.len;omega
  rw [vj8 _ _ hj,←h.kept,hp,List.take_add_one,List.getElem?_set_self hi,List.take_set_of_le (Nat.le_refl i)]
  simp
 rest:=by
  have:=h.lt
  rw [List.drop_set_of_lt (by omega),←List.drop_drop,←List.drop_drop,h.rest]
 dead:=fun d hd=>by
  have:=h.lt
  simp only [List.mem_cons]at hd
  rcases hd with rfl|rfl|hd
  ·omega
  ·omega
  ·exact v3p h.dead d hd
theorem DelAt.done {α:Type}{p:α→Bool}{xs0 xs:List α}{i j:Nat}{dd:List Nat}(h:DelAt p xs0 i j xs dd)(hj:¬j<xs0.length):xs.take i=(xs0.filter fun x=>!p x)∧i=(xs0.filter fun x=>!p x).length∧loD i dd=[]:=by
 have e:j=xs0.length:=by have:=h.le;omega
 have h1:=h.kept
 rw [e,List.take_length]at h1
 refine⟨h1,?_,v75 h.dead⟩
 rw [←h1,List.length_take]
 have:=h.lt
 have:=h.le
 have:=h.len
 omega
theorem DelAt.start {α:Type}{p:α→Bool}{xs0:List α}{i:Nat}(hi:i<xs0.length)(hp:p xs0[i]=true)(hb:∀t (ht:t<xs0.length),t<i→p xs0[t]=false):DelAt p xs0 i (i+1) xs0 [] where
 len:=rfl
 lt:=Nat.lt_succ_self i
 le:=hi
 kept:=by
  rw [vj8 _ _ hi,hp]
  simp only [Bool.not_true,Bool.false_eq_true,if_false,List.append_nil]
  refine(List.filter_eq_self.2 fun y hy=>?_).symm
  obtain⟨t,ht,rfl⟩:=List.getElem_of_mem hy
  rw [List.length_take]at ht
  rw [List.getElem_take,hb t (by omega) (by omega)]
  rfl
 rest:=rfl
 dead:=fun d hd=>by cases hd
end
end Go.VE
/- Plain laws: slices.DeleteFunc answers the filtered list;bases with transactions given up. -/
namespace Go.VE
noncomputable section
set_option linter.unusedVariables false
set_option linter.unusedSimpArgs false
set_option maxRecDepth 100000
theorem v8u (p:tTxn.D→Bool):∀(l:List tTxn.D) (i:Nat),(atF p l i = -1∧∀y∈l,p y=false)∨∃(a:Nat) (ha:a<l.length),atF p l i=((i+a:Nat):Int)∧p l[a]=true∧∀t (ht:t<l.length),t<a→p l[t]=false
 |[],i=>.inl ⟨rfl,fun y h=>by cases h⟩
 |y::l,i=>by
  cases hp:p y with
  |true=>exact .inr ⟨0,by simp,by simp only [atF,hp,cond_true,Nat.add_zero],hp,fun t _ h=>by omega⟩
  |false=>
   rcases v8u p l (i+1)with⟨h,hn⟩|⟨a,ha,h,h1,h2⟩
   ·exact .inl ⟨by simp only [atF,hp,cond_false,h],fun z hz=>by rcases List.mem_cons.1 hz with rfl|hz;exact hp;exact hn z hz⟩
   ·refine .inr ⟨a+1,by simp only [List.length_cons];omega,by simp only [atF,hp,cond_false,h];congr 1;omega,h1,fun t ht hta=>?_⟩
    cases t with
    |zero=>exact hp
    |succ t=>exact h2 t (by simpa using ht) (by omega)
def tagS {α:Type}(b:Bool)(x:α):α⊕α:=bif b then .inr x else .inl x
theorem vt3 {σ:Type}{c:σ}{p:tTxn.D→Bool}{xs0:List tTxn.D}(hl:xs0.length≤1048576)
  {B:((Int×Int×List tTxn.D×List Nat×σ)⊕(Int×Int×List tTxn.D×List Nat×σ))→(((Int×Int×List tTxn.D×List Nat×σ)⊕(Int×Int×List tTxn.D×List Nat×σ))⊕((Int×Int×List tTxn.D×List Nat×σ)⊕(Int×Int×List tTxn.D×List Nat×σ))→Option Res)→Option Res}
  (hk:∀b (i j:Nat) xs dd k,i<xs.length→j<xs.length→xs.length≤1048576→hasD dd j=false→p (xs.getD j (Ty.zero tTxn))=false→B (tagS b ((i:Int),(j:Int),xs,dd,c)) k=k (.inl (tagS true (((i+1:Nat):Int),((j+1:Nat):Int),xs.set i (xs.getD j (Ty.zero tTxn)),j::j::delD i dd,c))))
  (hs:∀b (i j:Nat) xs dd k,j<xs.length→xs.length≤1048576→hasD dd j=false→p (xs.getD j (Ty.zero tTxn))=true→B (tagS b ((i:Int),(j:Int),xs,dd,c)) k=k (.inl (tagS b ((i:Int),((j+1:Nat):Int),xs,dd,c))))
  (he:∀b (i j:Nat) xs dd k,¬j<xs.length→B (tagS b ((i:Int),(j:Int),xs,dd,c)) k=k (.inr (tagS b ((i:Int),(j:Int),xs,dd,c)))) :
  ∀(n:Nat) (xs:List tTxn.D) (i j:Nat) (dd:List Nat) (b:Bool) (q:Nat),xs0.length-j=n→DelAt p xs0 i j xs dd→n<q→
   ∃b' i' xs' dd',(i'≤xs'.length∧xs'.take i'=xs0.filter (fun x=>!p x)∧loD i' dd'=[])∧∀K,vad B q (tagS b ((i:Int),(j:Int),xs,dd,c)) K=K (tagS b' ((i':Int),((xs0.length:Nat):Int),xs',dd',c))
 |n,xs,i,j,dd,b,0,_,_,hq=>by omega
 |0,xs,i,j,dd,b,q+1,hn,h,_=>by
  have hlen:=h.len;have hle:=h.le;have hlt:=h.lt
  have hj:j=xs0.length:=by omega
  subst hj
  obtain⟨h1,h2,h3⟩:=h.done (by omega)
  refine⟨b,i,xs,dd,⟨by omega,h1,h3⟩,fun K=>?_⟩
  simp only [vad]
  rw [he b i _ xs dd _ (by omega)]
  simp only [Sum.elim_inr]
 |n+1,xs,i,j,dd,b,q+1,hn,h,hq=>by
  have hlen:=h.len;have hle:=h.le;have hlt:=h.lt
  have hj:j<xs0.length:=by omega
  have hd:hasD dd j=false:=v1n h.dead
  have hg:=h.get hj (Ty.zero tTxn)
  cases hp:p xs0[j]with
  |true=>
   obtain⟨b',i',xs',dd',hh,hK⟩:=vt3 hl hk hs he n xs i (j+1) dd b q (by omega) (h.skip hj hp) (by omega)
   refine⟨b',i',xs',dd',hh,fun K=>?_⟩
   simp only [vad]
   rw [hs b i j xs dd _ (by omega) (by omega) hd (by rw [hg];exact hp)]
   simp only [Sum.elim_inl]
   exact hK K
  |false=>
   obtain⟨b',i',xs',dd',hh,hK⟩:=vt3 hl hk hs he n (xs.set i xs0[j]) (i+1) (j+1) (j::j::delD i dd) true q (by omega) (h.keep hj hp) (by omega)
   refine⟨b',i',xs',dd',hh,fun K=>?_⟩
   simp only [vad]
   rw [hk b i j xs dd _ (by omega) (by omega) (by omega) hd (by rw [hg];exact hp),hg]
   simp only [Sum.elim_inl]
   exact hK K
theorem v69 {p:tTxn.D→Bool}{l:List tTxn.D}(h:∀y∈l,p y=false):l.filter (fun x=>!p x)=l:=
 List.filter_eq_self.2 fun y hy=>by rw [h y hy];rfl
theorem vw6 {l:List tTxn.D}(h:OkTs l)(p:tTxn.D→Bool):OkTs (l.filter p):=
 ⟨fun y hy=>h.1 y (List.mem_filter.1 hy).1,Nat.le_trans (List.length_filter_le _ _) h.2⟩
theorem vpk (p:tTxn.D→Bool):∀l:List tTxn.D,cntT (l.filter p)≤cntT l
 |[]=>Int.le_refl _
 |y::l=>by
  have ih:=vpk p l
  have h1:=vnm y
  rw [List.filter_cons]
  cases p y
  ·simp only [Bool.false_eq_true,if_false,cntT];omega
  ·simp only [if_true,cntT];omega
theorem vwp (x:tTxn.D)(c:ByteArray) (k):vmg x c k=k (vba x.2.2.2.2.2.2.2 c,c):=by rw [v18];rfl
theorem vr5 {u0 u1}{c:ByteArray}:∀(l:List tTxn.D) (i:Nat),
  (∃a:Nat,atF (fun x=>vba x.2.2.2.2.2.2.2 c) l i=(a:Int)∧∀k,vge u0 u1 l c i k=k (.inl ((a:Int),(a:Int),c)))∨
  ((∃b:Int,∀k,vge u0 u1 l c i k=k (.inr (b,c)))∧atF (fun x=>vba x.2.2.2.2.2.2.2 c) l i = -1)
 |[],i=>.inr ⟨⟨_,fun k=>rfl⟩,rfl⟩
 |y::l,i=>by
  have ih:=vr5 (u0:=u0) (u1:=u1) (c:=c) l (i+1)
  simp only [vge,atF,vwp]
  cases vba y.2.2.2.2.2.2.2 c
  ·exact ih
  ·exact .inl ⟨i,rfl,fun k=>rfl⟩
theorem v3d {l:List tTxn.D}(c:ByteArray)(hl:l.length≤1048576) (k):vnl l c k=k (atF (fun x=>vba x.2.2.2.2.2.2.2 c) l 0,c):=by
 rw [wal (by omega)]
 unfold v3f
 rcases vr5 (u0:=l) (u1:=0) (c:=c) l 0 with⟨a,ha,h⟩|⟨⟨b,h⟩,ha⟩<;>rw [h,ha]<;>rfl
theorem v9n {l:List tTxn.D}(hl:l.length≤1048576)(c:ByteArray) :
  ∃s,(s = .inl (l.filter (fun x=>!(vba x.2.2.2.2.2.2.2 c)),c)∨s = .inr (c,l.filter (fun x=>!(vba x.2.2.2.2.2.2.2 c))))∧∀k,vq6 l c k=k s:=by
 rcases v8u (fun x=>vba x.2.2.2.2.2.2.2 c) l 0 with⟨h,hn⟩|⟨a,ha,h,h1,h2⟩
 ·refine⟨.inl (l,c),.inl (by rw [v69 hn]),fun k=>?_⟩
  rw [v8j]
  unfold vy6
  rw [v3d c hl]
  simp only [h]
  rfl
 ·obtain⟨b',i',xs',dd',⟨q1,q2,q3⟩,hK⟩:=vt3 (c:=c) (p:=fun x=>vba x.2.2.2.2.2.2.2 c) hl (B:=vd8)
   (fun b i j xs dd k hi hj hx hd hp=>by
    have hw1:IntKind.wrap .i64 ((i:Int)+1)=((i+1:Nat):Int):=vcp (by omega)
    have hw2:IntKind.wrap .i64 ((j:Int)+1)=((j+1:Nat):Int):=vcp (by omega)
    cases b<;>simp only [vd8,tagS,cond_true,cond_false,Sum.elim_inl,Sum.elim_inr,show (j:Int)<(xs.length:Int) by omega,show (0:Int)≤(j:Int) by omega,show (i:Int)<(xs.length:Int) by omega,show (0:Int)≤(i:Int) by omega,and_self,if_true,decide_true,Int.toNat_natCast,hd,vwp,hp,Bool.not_false,hw1,hw2])
   (fun b i j xs dd k hj hx hd hp=>by
    have hw2:IntKind.wrap .i64 ((j:Int)+1)=((j+1:Nat):Int):=vcp (by omega)
    cases b<;>simp only [vd8,tagS,cond_true,cond_false,Sum.elim_inl,Sum.elim_inr,show (j:Int)<(xs.length:Int) by omega,show (0:Int)≤(j:Int) by omega,and_self,if_true,decide_true,Int.toNat_natCast,hd,vwp,hp,Bool.not_true,hw2])
   (fun b i j xs dd k hj=>by
    cases b<;>simp only [vd8,tagS,cond_true,cond_false,Sum.elim_inl,Sum.elim_inr,show ¬(j:Int)<(xs.length:Int) by omega,decide_false])
   (l.length-(a+1)) l a (a+1) [] false Fuel rfl (DelAt.start ha h1 h2) (Nat.lt_of_lt_of_le (by omega) vem)
  refine⟨.inr (c,l.filter (fun x=>!(vba x.2.2.2.2.2.2.2 c))),.inr rfl,fun k=>?_⟩
  have hw1:IntKind.wrap .i64 ((a:Int)+1)=((a+1:Nat):Int):=vcp (by omega)
  have hne:((a:Int)==(-1:Int))=false:=by rw [beq_eq_false_iff_ne];omega
  have ez:((0+a:Nat):Int)=(a:Int):=by omega
  have hlen:((xs'.take i'++List.replicate (xs'.length-i') (Ty.zero tTxn)).length:Nat)=xs'.length:=by rw [List.length_append,List.length_take,List.length_replicate];omega
  have htk:(xs'.take i'++List.replicate (xs'.length-i') (Ty.zero tTxn)).take i'=l.filter (fun x=>!(vba x.2.2.2.2.2.2.2 c)):=by
   rw [List.take_append_of_le_length (by rw [List.length_take];omega),List.take_take,Nat.min_self,q2]
  rw [v8j]
  unfold vy6
  rw [v3d c hl]
  simp only [tagS,cond_false]at hK
  simp only [h,ez,hne,cond_false,hw1,hK]
  cases b'<;>simp only [tagS,cond_true,cond_false,Sum.elim_inl,Sum.elim_inr,show (0:Int)≤(i':Int) by omega,show (i':Int)≤(xs'.length:Int) by omega,and_self,if_true,Int.toNat_natCast,hlen,q3,geD,htk]
theorem vof {c:ByteArray} {u2 u3 u4 u5 u6 u7 u8 u9 u10 u11 u12}:∀(l acc:List tTxn.D) (i:Nat),(∀y∈l,y.2.2.2.2.1.length≤1048576∧y.2.2.2.2.2.1.length≤1048576)→acc.length+l.length≤1048576→
  ∃j:Int,∀K,vec c u2 u3 u4 u5 u6 u7 u8 u9 u10 u11 u12 l acc i K=K (j,acc++l.filter (fun x=>!(vba x.2.2.2.2.2.2.2 c)))
 |[],acc,i,_,_=>⟨_,fun K=>by simp only [vec,List.filter_nil,List.append_nil];rfl⟩
 |y::l,acc,i,hw,h=>by
  simp only [List.length_cons]at h
  have hy:=hw y (by simp)
  cases hs:vba y.2.2.2.2.2.2.2 c with
  |true=>
   obtain⟨j,hj⟩:=vof (c:=c) (u2:=u2) (u3:=u3) (u4:=u4) (u5:=u5) (u6:=u6) (u7:=u7) (u8:=u8) (u9:=u9) (u10:=u10) (u11:=u11) (u12:=u12) l acc (i+1) (fun z hz=>hw z (by simp [hz])) (by omega)
   exact⟨j,fun K=>by simp only [vec,hs,Bool.not_true,cond_false,hj,List.filter_cons,Bool.false_eq_true,if_false]⟩
  |false=>
   obtain⟨j,hj⟩:=vof (c:=c) (u2:=u2) (u3:=u3) (u4:=u4) (u5:=u5) (u6:=u6) (u7:=u7) (u8:=u8) (u9:=u9) (u10:=u10) (u11:=u11) (u12:=u12) l (acc++[y]) (i+1) (fun z hz=>hw z (by simp [hz])) (by rw [List.length_append,List.length_singleton];omega)
   refine⟨j,fun K=>?_⟩
   simp only [vec,hs,Bool.not_false,cond_true,v4x hy.1 hy.2,vmx]
   rw [if_pos (by rw [List.length_singleton];have:VE.maxLen=4294967296:=rfl;omega),hj]
   simp only [List.filter_cons,hs,Bool.not_false,if_true,List.append_assoc,List.singleton_append]
theorem v9r {b:tBase.D}(h:OkBs b) (k):vqc b k=k (b.2.2.2.1,b.2.2.2.2,b.1,b.2.1,b.2.2.1):=by
 rw [v3z]
 unfold vyj
 rw [if_pos (by have h1:=h.1;have:VE.maxLen=4294967296:=rfl;simp only [List.length_nil];omega)]
 simp only [v15 h.2.1,v15 h.2.2,List.nil_append]
theorem v9t {b:tBase.D}(h:OkBs b) (k):vuk b k=k (b.2.2.2.1,b.2.2.2.2,b.1,b.2.1,b.2.2.1):=by
 rw [v4j]
 unfold vx9
 rw [if_pos (by have h1:=h.1;have:VE.maxLen=4294967296:=rfl;omega)]
 simp only [v4p h.2.1,v4p h.2.2]
def upB (b:tBase.D)(c:ByteArray):List tTxn.D:=b.2.2.1.filter (fun x=>!(vba x.2.2.2.2.2.2.2 c))
theorem v89 {b:tBase.D}(h:OkBs b)(c:ByteArray) (k):vn1 b c k=k (b.2.2.2.1,b.2.2.2.2,b.1,b.2.1,upB b c):=by
 rw [wbc (by have:=h.2.2.2;omega)]
 unfold v2t
 simp only [v9r h]
 obtain⟨j,hj⟩:=vof (c:=c) (u2:=b.1) (u3:=b.2.1) (u4:=b.2.2.1) (u5:=b.2.2.2.1) (u6:=b.2.2.2.2) (u7:=0) (u8:=0) (u9:=b.2.2.2.1) (u10:=b.2.2.2.2) (u11:=b.1) (u12:=b.2.1) b.2.2.1 [] 0 h.2.2.1 (by simpa using h.2.2.2)
 simp only [hj,List.nil_append,upB]
theorem v93 {b:tBase.D}(h:OkBs b)(c:ByteArray) (k):vmb b c k=k (b.2.2.2.1,b.2.2.2.2,b.1,b.2.1,upB b c):=by
 rw [v25]
 unfold vyx
 simp only [v9t h]
 obtain⟨s,hs,hk⟩:=v9n (l:=b.2.2.1) h.2.2.2 c
 rw [hk]
 rcases hs with rfl|rfl<;>rfl
theorem wab {b:tBase.D}(h:OkBs b)(c:ByteArray):OkBs (b.1,(b.2.1,(upB b c,(b.2.2.2.1,b.2.2.2.2))))∧cntB (b.1,(b.2.1,(upB b c,(b.2.2.2.1,b.2.2.2.2))))≤cntB b:=
 ⟨⟨h.1,h.2.1,vw6 h.2.2 _⟩,by
  have:=vpk (fun x=>!(vba x.2.2.2.2.2.2.2 c)) b.2.2.1
  show 4*(b.1.length:Int)+cntT b.2.1+cntT (upB b c)≤4*(b.1.length:Int)+cntT b.2.1+cntT b.2.2.1
  unfold upB
  omega⟩
theorem v1i {b:tBase.D}(h:OkBs b) (k):vel b b k=k true:=by
 rw [vzt]
 simp [vv7,vhc h.1,vv1 h.2.1,vv1 h.2.2]
end
end Go.VE
/- The plain laws. -/
namespace Go.VE
set_option linter.unusedVariables false
set_option linter.unusedSimpArgs false
set_option maxRecDepth 100000
theorem vkw (x:tBase.D)(z:ByteArray)(hx:tBase.wf x)(hz:Ty.str.wf z)(k:Bool→Option Res):vv6 x z k=k true:=by
 rw [waj]
 unfold v3l
 by_cases bz:(z.size:Int)>1048576
 ·simp only [bz,decide_true,cond_true]
 simp only [bz,decide_false,cond_false]
 obtain⟨r0,q0,p0⟩:=v4e hx (a:=1048576) (by omega) (by omega)
 rw [q0]
 rcases p0 with p0|⟨p0,e0⟩
 ·simp [p0]
 have c0:¬r0<0:=by omega
 simp only [c0,decide_false,cond_false]
 have wx:tBase.wt x≤1048576:=by omega
 have hok0:=v9k wx
 obtain⟨hok,hcnt⟩:=wab hok0 z
 have hcx:=v98 x
 have hpx:=vym x
 have hpe:=vym (x.1,(x.2.1,(upB x z,(x.2.2.2.1,x.2.2.2.2))))
 have hE:=fun k=>v1i hok k
 have hM0:=fun a0 a1 k=>vow hok0 (c:=1) (by omega) (by omega) a0 a1 k
 generalize hg:cntB (x.1,(x.2.1,(upB x z,(x.2.2.2.1,x.2.2.2.2))))=g at *
 generalize hm:vk1 1 (x.1,(x.2.1,(upB x z,(x.2.2.2.1,x.2.2.2.2))))=m at *
 have hM1:∀a0 a1 k,vkn a0 a1 1 x.1 x.2.1 (upB x z) k=k (1+g,m.1,m.2.1,m.2.2.1):=fun a0 a1 k=>by
  have:=vow hok (c:=1) (by omega) (by rw [hg];omega) a0 a1 k
  rw [hg,hm]at this
  exact this
 have hH:∀z1 z2 k,vkr (m.1,(m.2.1,(m.2.2.1,(z1,z2)))) 1 k=k (1+g):=fun z1 z2 k=>by
  have:=vxq hok (c:=1) (by omega) (by rw [hg];omega) (z1,z2) k
  rw [hg,hm]at this
  exact this
 have n0:decide (1+cntB x<0)=false:=decide_eq_false (by omega)
 have n1:decide (1+g<0)=false:=decide_eq_false (by omega)
 simp only [v7g wx,v89 hok0,v93 hok0,vmx,hE,v64 wx,Bool.not_true,Bool.not_false,bne_self_eq_false,cond_true,cond_false,hM0,n0,vde,hM1,hH,n1]
end Go.VE
