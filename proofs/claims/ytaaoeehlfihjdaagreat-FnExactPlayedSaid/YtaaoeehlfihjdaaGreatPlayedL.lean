/- Plain laws of the helpers of all laws: sizes, copies, comparisons; written by plib.py. -/
import Derived.Test.YtaaoeehlfihjdaaGreatPlayedW
import Derived.Test.YtaaoeehlfihjdaaGreatP2
namespace Go.VE
set_option linter.unusedVariables false
set_option linter.unusedSimpArgs false
set_option maxRecDepth 100000
theorem wal (x:tRange.D):tRange.wt x=x.1.size+x.2.size:=by
 simp only [tRange,Ty.wt]<;>omega
theorem wod {x:tRange.D}(hx:tRange.wf x){a:Int}(h0:0≤a)(h1:a≤1048576):vvc (v55 x a) a (tRange.wt x):=by
 rw [wrd]
 unfold wlc
 rw [vnq (n:=x.1.size) h0 h1 hx.1]
 by_cases c0:a-(x.1.size:Int)<0
 ·exact⟨-1,fun k=>by simp [c0],.inl (by omega)⟩
 simp only [c0,decide_false,cond_false]
 rw [vnq (n:=x.2.size) (by omega) (by omega) hx.2]
 by_cases c1:(a-(x.1.size:Int))-(x.2.size:Int)<0
 ·exact⟨-1,fun k=>by simp [c1],.inl (by omega)⟩
 simp only [c1,decide_false,cond_false]
 exact⟨((a-(x.1.size:Int))-(x.2.size:Int)),fun k=>rfl,.inr ⟨by omega,by rw [wal]<;>(push_cast;omega)⟩⟩
theorem vuv {u0:List tRange.D}{u2:Int}:∀(l:List tRange.D) (s:Int) (i:Nat),(∀y∈l,tRange.wf y)→0≤s→s≤1048576→
  ∃e,(∀k,vs9 u0 u2 l s i k=k e)∧((∃z,e = .inl z∧z.2.1<0)∨∃z,e = .inr z∧0≤z.1∧z.1=s-(wtL tRange l:Int))
 |[],s,i,_,h0,h1=>⟨.inr (s,(i:Int)),fun k=>rfl,.inr ⟨_,rfl,h0,by simp [wtL]⟩⟩
 |y::l,s,i,hl,h0,h1=>by
  obtain⟨r,q,p⟩:=wod (hl y (by simp)) h0 h1
  simp only [vs9,q]
  rcases p with p|⟨p,e⟩
  ·exact⟨.inl (r,(-1:Int),(i:Int)),fun k=>by simp only [p,decide_true,cond_true],.inl ⟨_,rfl,by simp⟩⟩
  ·have c:¬r<0:=by omega
   simp only [c,decide_false,cond_false]
   obtain⟨e',q',p'⟩:=vuv l r (i+1) (fun y hy=>hl y (by simp [hy])) p (by omega)
   exact⟨e',q',p'.imp id fun⟨z,z1,z2,z3⟩=>⟨z,z1,z2,by rw [z3,e];simp only [wtL];push_cast;omega⟩⟩
theorem wie {x:List tRange.D}(hx:(Ty.slice tRange).wf x){a:Int}(h0:0≤a)(h1:a≤1048576):vvc (wdt x a) a ((Ty.slice tRange).wt x):=by
 rw [wv7]
 unfold vvc
 simp only [wl3]
 rw [vnq (n:=x.length) h0 h1 hx.1]
 by_cases c0:a-(x.length:Int)<0
 ·exact⟨-1,fun k=>by simp [c0],.inl (by omega)⟩
 simp only [c0,decide_false,cond_false]
 have hlen:x.length<9223372036854775807:=by omega
 simp only [w19 hlen]
 obtain⟨e,q,p⟩:=vuv (u0:=x) (u2:=0) x (a-(x.length:Int)) 0 hx.2 (by omega) (by omega)
 simp only [q]
 rcases p with⟨z,rfl,p⟩|⟨z,rfl,p,e⟩
 ·exact⟨z.2.1,fun k=>rfl,.inl p⟩
 ·exact⟨z.1,fun k=>rfl,.inr ⟨p,by rw [e];simp only [Ty.wt_slice];push_cast;omega⟩⟩
theorem wnv (x:tRange.D) (k):v7a x k=k x:=by
 rw [wq4];rfl
theorem vub {u0:List tRange.D}(z:tRange.D):∀(l:List tRange.D) (i:Nat),u0.drop i=l→∀K:List tRange.D→Option Res,vkv u0 l (u0.take i++List.replicate (u0.length-i) z) i (fun z=>K z.2)=K u0
 |[],i,h,K=>by
  have:u0.length≤i:=by have:=congrArg List.length h;simp at this;omega
  simp [vkv,show u0.length-i=0 by omega,List.take_of_length_le this]
 |y::l,i,h,K=>by
  have hlt:=vbt h
  have hg:u0[i]=y:=by have:=vi9 h;rw [List.getElem?_eq_getElem hlt]at this;simpa using this
  have hrec:=vub z l (i+1) (vau h) K
  have hsp:=vqu u0 z i hlt
  rw [hg]at hsp
  simp only [vkv,wnv,Int.toNat_natCast]
  rw [if_pos ⟨by omega,by simp;omega⟩]
  exact(congrArg (fun q=>vkv u0 l q (i+1) (fun z=>K z.2)) hsp).trans hrec
theorem wfp {x:List tRange.D}(hl:x.length≤1048576) (k):v6f x k=k x:=by
 rw [xcg (by omega)]
 simp only [wxl,Int.toNat_natCast]
 rw [if_pos ⟨by omega,by omega,by have:((VE.maxLen:Nat):Int)=4294967296:=rfl;omega⟩]
 have:=vub (u0:=x) (Ty.zero tRange) x 0 rfl k
 simpa using this
theorem weg (x:tRange.D) (k):v7v x x k=k true:=by
 rw [wv4]
 simp [wm3,vdb]
theorem vtl {u0:List tRange.D}{u2:Bool}:∀(l:List tRange.D) (i:Nat),u0.drop i=l→∃z,∀k,vp0 u0 u0 u2 l i k=k (.inr z)
 |[],i,h=>⟨_,fun k=>rfl⟩
 |y::l,i,h=>by
  have hlt:=vbt h
  obtain⟨z,hz⟩:=vtl (u2:=u2) l (i+1) (vau h)
  have hy:=(vcs h).1
  refine⟨z,fun k=>?_⟩
  simp only [vp0]
  rw [if_pos ⟨by omega,by omega⟩]
  simp only [hy,weg,Bool.not_true,cond_false,hz]
theorem v80 {x:List tRange.D}(hl:x.length≤1048576) (k):v6o x x k=k true:=by
 rw [xa3 (by omega)]
 obtain⟨z,hz⟩:=vtl (u0:=x) (u2:=false) x 0 rfl
 simp [wwk,hz]
theorem v9y (x:tWrite.D):tWrite.wt x=x.1.size+x.2.1.size:=by
 simp only [tWrite,Ty.wt]<;>omega
theorem wpo {x:tWrite.D}(hx:tWrite.wf x){a:Int}(h0:0≤a)(h1:a≤1048576):vvc (v69 x a) a (tWrite.wt x):=by
 rw [wu7]
 unfold wng
 rw [vnq (n:=x.1.size) h0 h1 hx.1]
 by_cases c0:a-(x.1.size:Int)<0
 ·exact⟨-1,fun k=>by simp [c0],.inl (by omega)⟩
 simp only [c0,decide_false,cond_false]
 rw [vnq (n:=x.2.1.size) (by omega) (by omega) hx.2.1]
 by_cases c1:(a-(x.1.size:Int))-(x.2.1.size:Int)<0
 ·exact⟨-1,fun k=>by simp [c1],.inl (by omega)⟩
 simp only [c1,decide_false,cond_false]
 exact⟨((a-(x.1.size:Int))-(x.2.1.size:Int)),fun k=>rfl,.inr ⟨by omega,by rw [v9y]<;>(push_cast;omega)⟩⟩
theorem vux {u0:List tWrite.D}{u2:Int}:∀(l:List tWrite.D) (s:Int) (i:Nat),(∀y∈l,tWrite.wf y)→0≤s→s≤1048576→
  ∃e,(∀k,vsl u0 u2 l s i k=k e)∧((∃z,e = .inl z∧z.2.1<0)∨∃z,e = .inr z∧0≤z.1∧z.1=s-(wtL tWrite l:Int))
 |[],s,i,_,h0,h1=>⟨.inr (s,(i:Int)),fun k=>rfl,.inr ⟨_,rfl,h0,by simp [wtL]⟩⟩
 |y::l,s,i,hl,h0,h1=>by
  obtain⟨r,q,p⟩:=wpo (hl y (by simp)) h0 h1
  simp only [vsl,q]
  rcases p with p|⟨p,e⟩
  ·exact⟨.inl (r,(-1:Int),(i:Int)),fun k=>by simp only [p,decide_true,cond_true],.inl ⟨_,rfl,by simp⟩⟩
  ·have c:¬r<0:=by omega
   simp only [c,decide_false,cond_false]
   obtain⟨e',q',p'⟩:=vux l r (i+1) (fun y hy=>hl y (by simp [hy])) p (by omega)
   exact⟨e',q',p'.imp id fun⟨z,z1,z2,z3⟩=>⟨z,z1,z2,by rw [z3,e];simp only [wtL];push_cast;omega⟩⟩
theorem wix {x:List tWrite.D}(hx:(Ty.slice tWrite).wf x){a:Int}(h0:0≤a)(h1:a≤1048576):vvc (wdz x a) a ((Ty.slice tWrite).wt x):=by
 rw [wy0]
 unfold vvc
 simp only [wj7]
 rw [vnq (n:=x.length) h0 h1 hx.1]
 by_cases c0:a-(x.length:Int)<0
 ·exact⟨-1,fun k=>by simp [c0],.inl (by omega)⟩
 simp only [c0,decide_false,cond_false]
 have hlen:x.length<9223372036854775807:=by omega
 simp only [w2m hlen]
 obtain⟨e,q,p⟩:=vux (u0:=x) (u2:=0) x (a-(x.length:Int)) 0 hx.2 (by omega) (by omega)
 simp only [q]
 rcases p with⟨z,rfl,p⟩|⟨z,rfl,p,e⟩
 ·exact⟨z.2.1,fun k=>rfl,.inl p⟩
 ·exact⟨z.1,fun k=>rfl,.inr ⟨p,by rw [e];simp only [Ty.wt_slice];push_cast;omega⟩⟩
theorem wo0 (x:tWrite.D) (k):v7m x k=k x:=by
 rw [wqi];rfl
theorem vvn {u0:List tWrite.D}(z:tWrite.D):∀(l:List tWrite.D) (i:Nat),u0.drop i=l→∀K:List tWrite.D→Option Res,vlg u0 l (u0.take i++List.replicate (u0.length-i) z) i (fun z=>K z.2)=K u0
 |[],i,h,K=>by
  have:u0.length≤i:=by have:=congrArg List.length h;simp at this;omega
  simp [vlg,show u0.length-i=0 by omega,List.take_of_length_le this]
 |y::l,i,h,K=>by
  have hlt:=vbt h
  have hg:u0[i]=y:=by have:=vi9 h;rw [List.getElem?_eq_getElem hlt]at this;simpa using this
  have hrec:=vvn z l (i+1) (vau h) K
  have hsp:=vqu u0 z i hlt
  rw [hg]at hsp
  simp only [vlg,wo0,Int.toNat_natCast]
  rw [if_pos ⟨by omega,by simp;omega⟩]
  exact(congrArg (fun q=>vlg u0 l q (i+1) (fun z=>K z.2)) hsp).trans hrec
theorem wgc {x:List tWrite.D}(hl:x.length≤1048576) (k):v6p x k=k x:=by
 rw [xcs (by omega)]
 simp only [wqy,Int.toNat_natCast]
 rw [if_pos ⟨by omega,by omega,by have:((VE.maxLen:Nat):Int)=4294967296:=rfl;omega⟩]
 have:=vvn (u0:=x) (Ty.zero tWrite) x 0 rfl k
 simpa using this
theorem wd5 (x:tWrite.D) (k):v68 x x k=k true:=by
 rw [wsb]
 simp [wlt,vdb]
theorem vt1 {u0:List tWrite.D}{u2:Bool}:∀(l:List tWrite.D) (i:Nat),u0.drop i=l→∃z,∀k,vo8 u0 u0 u2 l i k=k (.inr z)
 |[],i,h=>⟨_,fun k=>rfl⟩
 |y::l,i,h=>by
  have hlt:=vbt h
  obtain⟨z,hz⟩:=vt1 (u2:=u2) l (i+1) (vau h)
  have hy:=(vcs h).1
  refine⟨z,fun k=>?_⟩
  simp only [vo8]
  rw [if_pos ⟨by omega,by omega⟩]
  simp only [hy,wd5,Bool.not_true,cond_false,hz]
theorem wce {x:List tWrite.D}(hl:x.length≤1048576) (k):v5y x x k=k true:=by
 rw [xcf (by omega)]
 obtain⟨z,hz⟩:=vt1 (u0:=x) (u2:=false) x 0 rfl
 simp [wr7,hz]
theorem vpk (x:tVersion.D):tVersion.wt x=x.1.size+x.2.1.size:=by
 simp only [tVersion,Ty.wt]<;>omega
theorem wdb {x:tVersion.D}(hx:tVersion.wf x){a:Int}(h0:0≤a)(h1:a≤1048576):vvc (v65 x a) a (tVersion.wt x):=by
 rw [wrg]
 unfold wjp
 rw [vnq (n:=x.1.size) h0 h1 hx.1]
 by_cases c0:a-(x.1.size:Int)<0
 ·exact⟨-1,fun k=>by simp [c0],.inl (by omega)⟩
 simp only [c0,decide_false,cond_false]
 rw [vnq (n:=x.2.1.size) (by omega) (by omega) hx.2.1]
 by_cases c1:(a-(x.1.size:Int))-(x.2.1.size:Int)<0
 ·exact⟨-1,fun k=>by simp [c1],.inl (by omega)⟩
 simp only [c1,decide_false,cond_false]
 exact⟨((a-(x.1.size:Int))-(x.2.1.size:Int)),fun k=>rfl,.inr ⟨by omega,by rw [vpk]<;>(push_cast;omega)⟩⟩
theorem vop {u0:List tVersion.D}{u2:Int}:∀(l:List tVersion.D) (s:Int) (i:Nat),(∀y∈l,tVersion.wf y)→0≤s→s≤1048576→
  ∃e,(∀k,vr6 u0 u2 l s i k=k e)∧((∃z,e = .inl z∧z.2.1<0)∨∃z,e = .inr z∧0≤z.1∧z.1=s-(wtL tVersion l:Int))
 |[],s,i,_,h0,h1=>⟨.inr (s,(i:Int)),fun k=>rfl,.inr ⟨_,rfl,h0,by simp [wtL]⟩⟩
 |y::l,s,i,hl,h0,h1=>by
  obtain⟨r,q,p⟩:=wdb (hl y (by simp)) h0 h1
  simp only [vr6,q]
  rcases p with p|⟨p,e⟩
  ·exact⟨.inl (r,(-1:Int),(i:Int)),fun k=>by simp only [p,decide_true,cond_true],.inl ⟨_,rfl,by simp⟩⟩
  ·have c:¬r<0:=by omega
   simp only [c,decide_false,cond_false]
   obtain⟨e',q',p'⟩:=vop l r (i+1) (fun y hy=>hl y (by simp [hy])) p (by omega)
   exact⟨e',q',p'.imp id fun⟨z,z1,z2,z3⟩=>⟨z,z1,z2,by rw [z3,e];simp only [wtL];push_cast;omega⟩⟩
theorem v9l {x:List tVersion.D}(hx:(Ty.slice tVersion).wf x){a:Int}(h0:0≤a)(h1:a≤1048576):vvc (wet x a) a ((Ty.slice tVersion).wt x):=by
 rw [wr6]
 unfold vvc
 simp only [wjx]
 rw [vnq (n:=x.length) h0 h1 hx.1]
 by_cases c0:a-(x.length:Int)<0
 ·exact⟨-1,fun k=>by simp [c0],.inl (by omega)⟩
 simp only [c0,decide_false,cond_false]
 have hlen:x.length<9223372036854775807:=by omega
 simp only [wze hlen]
 obtain⟨e,q,p⟩:=vop (u0:=x) (u2:=0) x (a-(x.length:Int)) 0 hx.2 (by omega) (by omega)
 simp only [q]
 rcases p with⟨z,rfl,p⟩|⟨z,rfl,p,e⟩
 ·exact⟨z.2.1,fun k=>rfl,.inl p⟩
 ·exact⟨z.1,fun k=>rfl,.inr ⟨p,by rw [e];simp only [Ty.wt_slice];push_cast;omega⟩⟩
theorem wes (x:tVersion.D) (k):v8d x k=k x:=by
 rw [wvz];rfl
theorem vqf {u0:List tVersion.D}(z:tVersion.D):∀(l:List tVersion.D) (i:Nat),u0.drop i=l→∀K:List tVersion.D→Option Res,vlb u0 l (u0.take i++List.replicate (u0.length-i) z) i (fun z=>K z.2)=K u0
 |[],i,h,K=>by
  have:u0.length≤i:=by have:=congrArg List.length h;simp at this;omega
  simp [vlb,show u0.length-i=0 by omega,List.take_of_length_le this]
 |y::l,i,h,K=>by
  have hlt:=vbt h
  have hg:u0[i]=y:=by have:=vi9 h;rw [List.getElem?_eq_getElem hlt]at this;simpa using this
  have hrec:=vqf z l (i+1) (vau h) K
  have hsp:=vqu u0 z i hlt
  rw [hg]at hsp
  simp only [vlb,wes,Int.toNat_natCast]
  rw [if_pos ⟨by omega,by simp;omega⟩]
  exact(congrArg (fun q=>vlb u0 l q (i+1) (fun z=>K z.2)) hsp).trans hrec
theorem v9p {x:List tVersion.D}(hl:x.length≤1048576) (k):v5w x k=k x:=by
 rw [xah (by omega)]
 simp only [wp7,Int.toNat_natCast]
 rw [if_pos ⟨by omega,by omega,by have:((VE.maxLen:Nat):Int)=4294967296:=rfl;omega⟩]
 have:=vqf (u0:=x) (Ty.zero tVersion) x 0 rfl k
 simpa using this
theorem v4j (x:tVersion.D) (k):v8h x x k=k true:=by
 rw [wt5]
 simp [wms,vdb]
theorem vpg {u0:List tVersion.D}{u2:Bool}:∀(l:List tVersion.D) (i:Nat),u0.drop i=l→∃z,∀k,vn0 u0 u0 u2 l i k=k (.inr z)
 |[],i,h=>⟨_,fun k=>rfl⟩
 |y::l,i,h=>by
  have hlt:=vbt h
  obtain⟨z,hz⟩:=vpg (u2:=u2) l (i+1) (vau h)
  have hy:=(vcs h).1
  refine⟨z,fun k=>?_⟩
  simp only [vn0]
  rw [if_pos ⟨by omega,by omega⟩]
  simp only [hy,v4j,Bool.not_true,cond_false,hz]
theorem vzb {x:List tVersion.D}(hl:x.length≤1048576) (k):v8g x x k=k true:=by
 rw [xcv (by omega)]
 obtain⟨z,hz⟩:=vpg (u0:=x) (u2:=false) x 0 rfl
 simp [wu8,hz]
theorem vom (x:tTxn.D):tTxn.wt x=(Ty.slice tRange).wt x.2.2.2.2.1+(Ty.slice tWrite).wt x.2.2.2.2.2.1+x.2.2.2.2.2.2.2.size:=by
 simp only [tTxn,Ty.wt]<;>omega
theorem wl2 {x:tTxn.D}(hx:tTxn.wf x){a:Int}(h0:0≤a)(h1:a≤1048576):vvc (vzp x a) a (tTxn.wt x):=by
 rw [wq3]
 unfold wk9
 obtain⟨r0,q0,p0⟩:=wie (x:=x.2.2.2.2.1) hx.2.2.2.2.1 (a:=a) h0 h1
 simp only [q0]
 rcases p0 with p0|⟨p0,e0⟩
 ·exact⟨-1,fun k=>by simp [p0],.inl (by omega)⟩
 have c0:¬r0<0:=by omega
 simp only [c0,decide_false,cond_false]
 obtain⟨r1,q1,p1⟩:=wix (x:=x.2.2.2.2.2.1) hx.2.2.2.2.2.1 (a:=r0) p0 (by omega)
 simp only [q1]
 rcases p1 with p1|⟨p1,e1⟩
 ·exact⟨-1,fun k=>by simp [p1],.inl (by omega)⟩
 have c1:¬r1<0:=by omega
 simp only [c1,decide_false,cond_false]
 rw [vnq (n:=x.2.2.2.2.2.2.2.size) p1 (by omega) hx.2.2.2.2.2.2.2]
 by_cases c2:r1-(x.2.2.2.2.2.2.2.size:Int)<0
 ·exact⟨-1,fun k=>by simp [c2],.inl (by omega)⟩
 simp only [c2,decide_false,cond_false]
 exact⟨(r1-(x.2.2.2.2.2.2.2.size:Int)),fun k=>rfl,.inr ⟨by omega,by rw [vom]<;>(push_cast;omega)⟩⟩
theorem v2f {u0:List tTxn.D}{u2:Int}:∀(l:List tTxn.D) (s:Int) (i:Nat),(∀y∈l,tTxn.wf y)→0≤s→s≤1048576→
  ∃e,(∀k,vr2 u0 u2 l s i k=k e)∧((∃z,e = .inl z∧z.2.1<0)∨∃z,e = .inr z∧0≤z.1∧z.1=s-(wtL tTxn l:Int))
 |[],s,i,_,h0,h1=>⟨.inr (s,(i:Int)),fun k=>rfl,.inr ⟨_,rfl,h0,by simp [wtL]⟩⟩
 |y::l,s,i,hl,h0,h1=>by
  obtain⟨r,q,p⟩:=wl2 (hl y (by simp)) h0 h1
  simp only [vr2,q]
  rcases p with p|⟨p,e⟩
  ·exact⟨.inl (r,(-1:Int),(i:Int)),fun k=>by simp only [p,decide_true,cond_true],.inl ⟨_,rfl,by simp⟩⟩
  ·have c:¬r<0:=by omega
   simp only [c,decide_false,cond_false]
   obtain⟨e',q',p'⟩:=v2f l r (i+1) (fun y hy=>hl y (by simp [hy])) p (by omega)
   exact⟨e',q',p'.imp id fun⟨z,z1,z2,z3⟩=>⟨z,z1,z2,by rw [z3,e];simp only [wtL];push_cast;omega⟩⟩
theorem weh {x:List tTxn.D}(hx:(Ty.slice tTxn).wf x){a:Int}(h0:0≤a)(h1:a≤1048576):vvc (v7c x a) a ((Ty.slice tTxn).wt x):=by
 rw [wwh]
 unfold vvc
 simp only [wm4]
 rw [vnq (n:=x.length) h0 h1 hx.1]
 by_cases c0:a-(x.length:Int)<0
 ·exact⟨-1,fun k=>by simp [c0],.inl (by omega)⟩
 simp only [c0,decide_false,cond_false]
 have hlen:x.length<9223372036854775807:=by omega
 simp only [wzv hlen]
 obtain⟨e,q,p⟩:=v2f (u0:=x) (u2:=0) x (a-(x.length:Int)) 0 hx.2 (by omega) (by omega)
 simp only [q]
 rcases p with⟨z,rfl,p⟩|⟨z,rfl,p,e⟩
 ·exact⟨z.2.1,fun k=>rfl,.inl p⟩
 ·exact⟨z.1,fun k=>rfl,.inr ⟨p,by rw [e];simp only [Ty.wt_slice];push_cast;omega⟩⟩
theorem w1f (x:tTxn.D)(h4:x.2.2.2.2.1.length≤1048576)(h5:x.2.2.2.2.2.1.length≤1048576) (k):vxa x k=k (x.1,x.2.1,x.2.2.1,x.2.2.2.1,x.2.2.2.2.2.2.1,x.2.2.2.2.2.2.2,x.2.2.2.2.1,x.2.2.2.2.2.1):=by
 rw [wxe]
 simp only [wmy,wfp h4,wgc h5]
theorem wvi {x:tTxn.D}(h:tTxn.wt x≤1048576) (k):vxa x k=k (x.1,x.2.1,x.2.2.1,x.2.2.2.1,x.2.2.2.2.2.2.1,x.2.2.2.2.2.2.2,x.2.2.2.2.1,x.2.2.2.2.2.1):=by
 rw [vom]at h
 exact w1f x (vca (T:=tRange) (by omega)) (vca (T:=tWrite) (by omega)) k
theorem v2c {u0:List tTxn.D}(hu:∀y∈u0,tTxn.wt y≤1048576)(z:tTxn.D):∀(l:List tTxn.D) (i:Nat),u0.drop i=l→∀K:List tTxn.D→Option Res,vlc u0 l (u0.take i++List.replicate (u0.length-i) z) i (fun z=>K z.2)=K u0
 |[],i,h,K=>by
  have:u0.length≤i:=by have:=congrArg List.length h;simp at this;omega
  simp [vlc,show u0.length-i=0 by omega,List.take_of_length_le this]
 |y::l,i,h,K=>by
  have hlt:=vbt h
  have hg:u0[i]=y:=by have:=vi9 h;rw [List.getElem?_eq_getElem hlt]at this;simpa using this
  have hrec:=v2c hu z l (i+1) (vau h) K
  have hsp:=vqu u0 z i hlt
  rw [hg]at hsp
  simp only [vlc,wvi (hu y (vc5 h)),Int.toNat_natCast]
  rw [if_pos ⟨by omega,by simp;omega⟩]
  exact(congrArg (fun q=>vlc u0 l q (i+1) (fun z=>K z.2)) hsp).trans hrec
theorem wcu {x:List tTxn.D}(hl:x.length≤1048576)(hu:∀y∈x,tTxn.wt y≤1048576) (k):v0f x k=k x:=by
 rw [xaq (by omega)]
 simp only [wq9,Int.toNat_natCast]
 rw [if_pos ⟨by omega,by omega,by have:((VE.maxLen:Nat):Int)=4294967296:=rfl;omega⟩]
 have:=v2c (u0:=x) hu (Ty.zero tTxn) x 0 rfl k
 simpa using this
theorem wo5 (x:tTxn.D)(h4:x.2.2.2.2.1.length≤1048576)(h5:x.2.2.2.2.2.1.length≤1048576) (k):vw0 x x k=k true:=by
 rw [ww0]
 simp [wl0,vdb,v80 h4,wce h5]
theorem wr4 {x:tTxn.D}(h:tTxn.wt x≤1048576) (k):vw0 x x k=k true:=by
 rw [vom]at h
 exact wo5 x (vca (T:=tRange) (by omega)) (vca (T:=tWrite) (by omega)) k
theorem v1f {u0:List tTxn.D}(hu:∀y∈u0,tTxn.wt y≤1048576){u2:Bool}:∀(l:List tTxn.D) (i:Nat),u0.drop i=l→∃z,∀k,vn7 u0 u0 u2 l i k=k (.inr z)
 |[],i,h=>⟨_,fun k=>rfl⟩
 |y::l,i,h=>by
  have hlt:=vbt h
  obtain⟨z,hz⟩:=v1f hu (u2:=u2) l (i+1) (vau h)
  have hy:=(vcs h).1
  refine⟨z,fun k=>?_⟩
  simp only [vn7]
  rw [if_pos ⟨by omega,by omega⟩]
  simp only [hy,wr4 (hu y (vc5 h)),Bool.not_true,cond_false,hz]
theorem v0s {x:List tTxn.D}(hl:x.length≤1048576)(hu:∀y∈x,tTxn.wt y≤1048576) (k):vzd x x k=k true:=by
 rw [xap (by omega)]
 obtain⟨z,hz⟩:=v1f (u0:=x) hu (u2:=false) x 0 rfl
 simp [wtq,hz]
theorem voy (x:tBase.D):tBase.wt x=(Ty.slice tVersion).wt x.1+(Ty.slice tTxn).wt x.2.1+(Ty.slice tTxn).wt x.2.2.1:=by
 simp only [tBase,Ty.wt]<;>omega
theorem wc5 {x:tBase.D}(hx:tBase.wf x){a:Int}(h0:0≤a)(h1:a≤1048576):vvc (v79 x a) a (tBase.wt x):=by
 rw [ww5]
 unfold wkk
 obtain⟨r0,q0,p0⟩:=v9l (x:=x.1) hx.1 (a:=a) h0 h1
 simp only [q0]
 rcases p0 with p0|⟨p0,e0⟩
 ·exact⟨-1,fun k=>by simp [p0],.inl (by omega)⟩
 have c0:¬r0<0:=by omega
 simp only [c0,decide_false,cond_false]
 obtain⟨r1,q1,p1⟩:=weh (x:=x.2.1) hx.2.1 (a:=r0) p0 (by omega)
 simp only [q1]
 rcases p1 with p1|⟨p1,e1⟩
 ·exact⟨-1,fun k=>by simp [p1],.inl (by omega)⟩
 have c1:¬r1<0:=by omega
 simp only [c1,decide_false,cond_false]
 obtain⟨r2,q2,p2⟩:=weh (x:=x.2.2.1) hx.2.2.1 (a:=r1) p1 (by omega)
 simp only [q2]
 rcases p2 with p2|⟨p2,e2⟩
 ·exact⟨-1,fun k=>by simp [p2],.inl (by omega)⟩
 have c2:¬r2<0:=by omega
 simp only [c2,decide_false,cond_false]
 exact⟨r2,fun k=>rfl,.inr ⟨by omega,by rw [voy]<;>(push_cast;omega)⟩⟩
theorem wqd (x:tBase.D)(h0:x.1.length≤1048576)(h1:x.2.1.length≤1048576)(g1:∀y∈x.2.1,tTxn.wt y≤1048576)(h2:x.2.2.1.length≤1048576)(g2:∀y∈x.2.2.1,tTxn.wt y≤1048576) (k):vrl x k=k (x.2.2.2.1,x.2.2.2.2,x.1,x.2.1,x.2.2.1):=by
 rw [wtt]
 simp only [wnd,v9p h0,wcu h1 g1,wcu h2 g2]
theorem wjn {x:tBase.D}(h:tBase.wt x≤1048576) (k):vrl x k=k (x.2.2.2.1,x.2.2.2.2,x.1,x.2.1,x.2.2.1):=by
 rw [voy]at h
 exact wqd x (vca (T:=tVersion) (by omega)) (vca (T:=tTxn) (by omega)) (fun y hy=>vbh hy (by omega)) (vca (T:=tTxn) (by omega)) (fun y hy=>vbh hy (by omega)) k
theorem wfo (x:tBase.D)(h0:x.1.length≤1048576)(h1:x.2.1.length≤1048576)(g1:∀y∈x.2.1,tTxn.wt y≤1048576)(h2:x.2.2.1.length≤1048576)(g2:∀y∈x.2.2.1,tTxn.wt y≤1048576) (k):vrq x x k=k true:=by
 rw [wsy]
 simp [wlj,vdb,vzb h0,v0s h1 g1,v0s h2 g2]
theorem wa9 {x:tBase.D}(h:tBase.wt x≤1048576) (k):vrq x x k=k true:=by
 rw [voy]at h
 exact wfo x (vca (T:=tVersion) (by omega)) (vca (T:=tTxn) (by omega)) (fun y hy=>vbh hy (by omega)) (vca (T:=tTxn) (by omega)) (fun y hy=>vbh hy (by omega)) k
theorem vgl (x:tRecord.D):tRecord.wt x=tTxn.wt x.2.1+x.2.2.1.size+tBase.wt x.2.2.2.2:=by
 simp only [tRecord,Ty.wt]<;>omega
theorem wfu {x:tRecord.D}(hx:tRecord.wf x){a:Int}(h0:0≤a)(h1:a≤1048576):vvc (wcw x a) a (tRecord.wt x):=by
 rw [ww2]
 unfold wmq
 obtain⟨r0,q0,p0⟩:=wl2 (x:=x.2.1) hx.2.1 (a:=a) h0 h1
 simp only [q0]
 rcases p0 with p0|⟨p0,e0⟩
 ·exact⟨-1,fun k=>by simp [p0],.inl (by omega)⟩
 have c0:¬r0<0:=by omega
 simp only [c0,decide_false,cond_false]
 rw [vnq (n:=x.2.2.1.size) p0 (by omega) hx.2.2.1]
 by_cases c1:r0-(x.2.2.1.size:Int)<0
 ·exact⟨-1,fun k=>by simp [c1],.inl (by omega)⟩
 simp only [c1,decide_false,cond_false]
 obtain⟨r2,q2,p2⟩:=wc5 (x:=x.2.2.2.2) hx.2.2.2.2 (a:=(r0-(x.2.2.1.size:Int))) (by omega) (by omega)
 simp only [q2]
 rcases p2 with p2|⟨p2,e2⟩
 ·exact⟨-1,fun k=>by simp [p2],.inl (by omega)⟩
 have c2:¬r2<0:=by omega
 simp only [c2,decide_false,cond_false]
 exact⟨r2,fun k=>rfl,.inr ⟨by omega,by rw [vgl]<;>(push_cast;omega)⟩⟩
theorem wim (x:tRecord.D)(h1:tTxn.wt x.2.1≤1048576)(h4:tBase.wt x.2.2.2.2≤1048576) (k):vtq x k=k (x.1,x.2.1.1,x.2.1.2.1,x.2.1.2.2.1,x.2.1.2.2.2.1,x.2.1.2.2.2.2.2.2.1,x.2.1.2.2.2.2.2.2.2,x.2.2.1,x.2.2.2.1,x.2.2.2.2.2.2.2.1,x.2.2.2.2.2.2.2.2,x.2.1.2.2.2.2.1,x.2.1.2.2.2.2.2.1,x.2.2.2.2.1,x.2.2.2.2.2.1,x.2.2.2.2.2.2.1):=by
 rw [wtv]
 simp only [wjz,wvi h1,wjn h4]
theorem wnp {x:tRecord.D}(h:tRecord.wt x≤1048576) (k):vtq x k=k (x.1,x.2.1.1,x.2.1.2.1,x.2.1.2.2.1,x.2.1.2.2.2.1,x.2.1.2.2.2.2.2.2.1,x.2.1.2.2.2.2.2.2.2,x.2.2.1,x.2.2.2.1,x.2.2.2.2.2.2.2.1,x.2.2.2.2.2.2.2.2,x.2.1.2.2.2.2.1,x.2.1.2.2.2.2.2.1,x.2.2.2.2.1,x.2.2.2.2.2.1,x.2.2.2.2.2.2.1):=by
 rw [vgl]at h
 exact wim x (by omega) (by omega) k
theorem wao (x:tRecord.D)(h1:tTxn.wt x.2.1≤1048576)(h4:tBase.wt x.2.2.2.2≤1048576) (k):v63 x x k=k true:=by
 rw [wyk]
 simp [wkt,vdb,wr4 h1,wa9 h4]
theorem wnx {x:tRecord.D}(h:tRecord.wt x≤1048576) (k):v63 x x k=k true:=by
 rw [vgl]at h
 exact wao x (by omega) (by omega) k
end Go.VE
