/- Plain laws of the helpers of all laws: sizes, copies, comparisons; written by plib.py. -/
import Derived.Test.YtbaniaofomgceaaLeaveW
import Derived.Test.YtbaniaofomgceaaP2
namespace Go.VE
set_option linter.unusedVariables false
set_option linter.unusedSimpArgs false
set_option maxRecDepth 100000
theorem wi1 (x:tRange.D):tRange.wt x=x.1.size+x.2.size:=by
 simp only [tRange,Ty.wt]<;>omega
theorem v67 {x:tRange.D}(hx:tRange.wf x){a:Int}(h0:0≤a)(h1:a≤1048576):vmy (vtt x a) a (tRange.wt x):=by
 rw [v9x]
 unfold v3o
 rw [vjx (n:=x.1.size) h0 h1 hx.1]
 by_cases c0:a-(x.1.size:Int)<0
 ·exact⟨-1,fun k=>by simp [c0],.inl (by omega)⟩
 simp only [c0,decide_false,cond_false]
 rw [vjx (n:=x.2.size) (by omega) (by omega) hx.2]
 by_cases c1:(a-(x.1.size:Int))-(x.2.size:Int)<0
 ·exact⟨-1,fun k=>by simp [c1],.inl (by omega)⟩
 simp only [c1,decide_false,cond_false]
 exact⟨((a-(x.1.size:Int))-(x.2.size:Int)),fun k=>rfl,.inr ⟨by omega,by rw [wi1]<;>(push_cast;omega)⟩⟩
theorem vmo {u0:List tRange.D}{u2:Int}:∀(l:List tRange.D) (s:Int) (i:Nat),(∀y∈l,tRange.wf y)→0≤s→s≤1048576→
  ∃e,(∀k,vl9 u0 u2 l s i k=k e)∧((∃z,e = .inl z∧z.2.1<0)∨∃z,e = .inr z∧0≤z.1∧z.1=s-(wtL tRange l:Int))
 |[],s,i,_,h0,h1=>⟨.inr (s,(i:Int)),fun k=>rfl,.inr ⟨_,rfl,h0,by simp [wtL]⟩⟩
 |y::l,s,i,hl,h0,h1=>by
  obtain⟨r,q,p⟩:=v67 (hl y (by simp)) h0 h1
  simp only [vl9,q]
  rcases p with p|⟨p,e⟩
  ·exact⟨.inl (r,(-1:Int),(i:Int)),fun k=>by simp only [p,decide_true,cond_true],.inl ⟨_,rfl,by simp⟩⟩
  ·have c:¬r<0:=by omega
   simp only [c,decide_false,cond_false]
   obtain⟨e',q',p'⟩:=vmo l r (i+1) (fun y hy=>hl y (by simp [hy])) p (by omega)
   exact⟨e',q',p'.imp id fun⟨z,z1,z2,z3⟩=>⟨z,z1,z2,by rw [z3,e];simp only [wtL];push_cast;omega⟩⟩
theorem v08 {x:List tRange.D}(hx:(Ty.slice tRange).wf x){a:Int}(h0:0≤a)(h1:a≤1048576):vmy (vy7 x a) a ((Ty.slice tRange).wt x):=by
 rw [wb0]
 unfold vmy
 simp only [v3q]
 rw [vjx (n:=x.length) h0 h1 hx.1]
 by_cases c0:a-(x.length:Int)<0
 ·exact⟨-1,fun k=>by simp [c0],.inl (by omega)⟩
 simp only [c0,decide_false,cond_false]
 have hlen:x.length<9223372036854775807:=by omega
 simp only [wfy hlen]
 obtain⟨e,q,p⟩:=vmo (u0:=x) (u2:=0) x (a-(x.length:Int)) 0 hx.2 (by omega) (by omega)
 simp only [q]
 rcases p with⟨z,rfl,p⟩|⟨z,rfl,p,e⟩
 ·exact⟨z.2.1,fun k=>rfl,.inl p⟩
 ·exact⟨z.1,fun k=>rfl,.inr ⟨p,by rw [e];simp only [Ty.wt_slice];push_cast;omega⟩⟩
theorem v6b (x:tRange.D) (k):vui x k=k x:=by
 rw [v9n];rfl
theorem vm8 {u0:List tRange.D}(z:tRange.D):∀(l:List tRange.D) (i:Nat),u0.drop i=l→∀K:List tRange.D→Option Res,vgi u0 l (u0.take i++List.replicate (u0.length-i) z) i (fun z=>K z.2)=K u0
 |[],i,h,K=>by
  have:u0.length≤i:=by have:=congrArg List.length h;simp at this;omega
  simp [vgi,show u0.length-i=0 by omega,List.take_of_length_le this]
 |y::l,i,h,K=>by
  have hlt:=vc6 h
  have hg:u0[i]=y:=by have:=vkg h;rw [List.getElem?_eq_getElem hlt]at this;simpa using this
  have hrec:=vm8 z l (i+1) (vbd h) K
  have hsp:=vkl u0 z i hlt
  rw [hg]at hsp
  simp only [vgi,v6b,Int.toNat_natCast]
  rw [if_pos ⟨by omega,by simp;omega⟩]
  exact(congrArg (fun q=>vgi u0 l q (i+1) (fun z=>K z.2)) hsp).trans hrec
theorem v0f {x:List tRange.D}(hl:x.length≤1048576) (k):vtr x k=k x:=by
 rw [wlf (by omega)]
 simp only [wax,Int.toNat_natCast]
 rw [if_pos ⟨by omega,by omega,by have:((VE.maxLen:Nat):Int)=4294967296:=rfl;omega⟩]
 have:=vm8 (u0:=x) (Ty.zero tRange) x 0 rfl k
 simpa using this
theorem vx9 (x:tRange.D) (k):vvy x x k=k true:=by
 rw [wao]
 simp [v27,vcd]
theorem vmp {u0:List tRange.D}{u2:Bool}:∀(l:List tRange.D) (i:Nat),u0.drop i=l→∃z,∀k,vjv u0 u0 u2 l i k=k (.inr z)
 |[],i,h=>⟨_,fun k=>rfl⟩
 |y::l,i,h=>by
  have hlt:=vc6 h
  obtain⟨z,hz⟩:=vmp (u2:=u2) l (i+1) (vbd h)
  have hy:=(vap h).1
  refine⟨z,fun k=>?_⟩
  simp only [vjv]
  rw [if_pos ⟨by omega,by omega⟩]
  simp only [hy,vx9,Bool.not_true,cond_false,hz]
theorem vwt {x:List tRange.D}(hl:x.length≤1048576) (k):vuv x x k=k true:=by
 rw [wlk (by omega)]
 obtain⟨z,hz⟩:=vmp (u0:=x) (u2:=false) x 0 rfl
 simp [v97,hz]
theorem wic (x:tWrite.D):tWrite.wt x=x.1.size+x.2.1.size:=by
 simp only [tWrite,Ty.wt]<;>omega
theorem v58 {x:tWrite.D}(hx:tWrite.wf x){a:Int}(h0:0≤a)(h1:a≤1048576):vmy (vt5 x a) a (tWrite.wt x):=by
 rw [v7n]
 unfold v4r
 rw [vjx (n:=x.1.size) h0 h1 hx.1]
 by_cases c0:a-(x.1.size:Int)<0
 ·exact⟨-1,fun k=>by simp [c0],.inl (by omega)⟩
 simp only [c0,decide_false,cond_false]
 rw [vjx (n:=x.2.1.size) (by omega) (by omega) hx.2.1]
 by_cases c1:(a-(x.1.size:Int))-(x.2.1.size:Int)<0
 ·exact⟨-1,fun k=>by simp [c1],.inl (by omega)⟩
 simp only [c1,decide_false,cond_false]
 exact⟨((a-(x.1.size:Int))-(x.2.1.size:Int)),fun k=>rfl,.inr ⟨by omega,by rw [wic]<;>(push_cast;omega)⟩⟩
theorem vm7 {u0:List tWrite.D}{u2:Int}:∀(l:List tWrite.D) (s:Int) (i:Nat),(∀y∈l,tWrite.wf y)→0≤s→s≤1048576→
  ∃e,(∀k,vlh u0 u2 l s i k=k e)∧((∃z,e = .inl z∧z.2.1<0)∨∃z,e = .inr z∧0≤z.1∧z.1=s-(wtL tWrite l:Int))
 |[],s,i,_,h0,h1=>⟨.inr (s,(i:Int)),fun k=>rfl,.inr ⟨_,rfl,h0,by simp [wtL]⟩⟩
 |y::l,s,i,hl,h0,h1=>by
  obtain⟨r,q,p⟩:=v58 (hl y (by simp)) h0 h1
  simp only [vlh,q]
  rcases p with p|⟨p,e⟩
  ·exact⟨.inl (r,(-1:Int),(i:Int)),fun k=>by simp only [p,decide_true,cond_true],.inl ⟨_,rfl,by simp⟩⟩
  ·have c:¬r<0:=by omega
   simp only [c,decide_false,cond_false]
   obtain⟨e',q',p'⟩:=vm7 l r (i+1) (fun y hy=>hl y (by simp [hy])) p (by omega)
   exact⟨e',q',p'.imp id fun⟨z,z1,z2,z3⟩=>⟨z,z1,z2,by rw [z3,e];simp only [wtL];push_cast;omega⟩⟩
theorem v02 {x:List tWrite.D}(hx:(Ty.slice tWrite).wf x){a:Int}(h0:0≤a)(h1:a≤1048576):vmy (vyn x a) a ((Ty.slice tWrite).wt x):=by
 rw [v9h]
 unfold vmy
 simp only [v21]
 rw [vjx (n:=x.length) h0 h1 hx.1]
 by_cases c0:a-(x.length:Int)<0
 ·exact⟨-1,fun k=>by simp [c0],.inl (by omega)⟩
 simp only [c0,decide_false,cond_false]
 have hlen:x.length<9223372036854775807:=by omega
 simp only [wdr hlen]
 obtain⟨e,q,p⟩:=vm7 (u0:=x) (u2:=0) x (a-(x.length:Int)) 0 hx.2 (by omega) (by omega)
 simp only [q]
 rcases p with⟨z,rfl,p⟩|⟨z,rfl,p,e⟩
 ·exact⟨z.2.1,fun k=>rfl,.inl p⟩
 ·exact⟨z.1,fun k=>rfl,.inr ⟨p,by rw [e];simp only [Ty.wt_slice];push_cast;omega⟩⟩
theorem v50 (x:tWrite.D) (k):vvk x k=k x:=by
 rw [wb2];rfl
theorem vmh {u0:List tWrite.D}(z:tWrite.D):∀(l:List tWrite.D) (i:Nat),u0.drop i=l→∀K:List tWrite.D→Option Res,vgr u0 l (u0.take i++List.replicate (u0.length-i) z) i (fun z=>K z.2)=K u0
 |[],i,h,K=>by
  have:u0.length≤i:=by have:=congrArg List.length h;simp at this;omega
  simp [vgr,show u0.length-i=0 by omega,List.take_of_length_le this]
 |y::l,i,h,K=>by
  have hlt:=vc6 h
  have hg:u0[i]=y:=by have:=vkg h;rw [List.getElem?_eq_getElem hlt]at this;simpa using this
  have hrec:=vmh z l (i+1) (vbd h) K
  have hsp:=vkl u0 z i hlt
  rw [hg]at hsp
  simp only [vgr,v50,Int.toNat_natCast]
  rw [if_pos ⟨by omega,by simp;omega⟩]
  exact(congrArg (fun q=>vgr u0 l q (i+1) (fun z=>K z.2)) hsp).trans hrec
theorem v1y {x:List tWrite.D}(hl:x.length≤1048576) (k):vu0 x k=k x:=by
 rw [wj5 (by omega)]
 simp only [wb3,Int.toNat_natCast]
 rw [if_pos ⟨by omega,by omega,by have:((VE.maxLen:Nat):Int)=4294967296:=rfl;omega⟩]
 have:=vmh (u0:=x) (Ty.zero tWrite) x 0 rfl k
 simpa using this
theorem vzr (x:tWrite.D) (k):vuo x x k=k true:=by
 rw [v9t]
 simp [v5l,vcd]
theorem vmd {u0:List tWrite.D}{u2:Bool}:∀(l:List tWrite.D) (i:Nat),u0.drop i=l→∃z,∀k,vi9 u0 u0 u2 l i k=k (.inr z)
 |[],i,h=>⟨_,fun k=>rfl⟩
 |y::l,i,h=>by
  have hlt:=vc6 h
  obtain⟨z,hz⟩:=vmd (u2:=u2) l (i+1) (vbd h)
  have hy:=(vap h).1
  refine⟨z,fun k=>?_⟩
  simp only [vi9]
  rw [if_pos ⟨by omega,by omega⟩]
  simp only [hy,vzr,Bool.not_true,cond_false,hz]
theorem vwi {x:List tWrite.D}(hl:x.length≤1048576) (k):vvf x x k=k true:=by
 rw [wj8 (by omega)]
 obtain⟨z,hz⟩:=vmd (u0:=x) (u2:=false) x 0 rfl
 simp [v76,hz]
theorem v86 (x:tVersion.D):tVersion.wt x=x.1.size+x.2.1.size:=by
 simp only [tVersion,Ty.wt]<;>omega
theorem v0b {x:tVersion.D}(hx:tVersion.wf x){a:Int}(h0:0≤a)(h1:a≤1048576):vmy (vve x a) a (tVersion.wt x):=by
 rw [wbw]
 unfold v48
 rw [vjx (n:=x.1.size) h0 h1 hx.1]
 by_cases c0:a-(x.1.size:Int)<0
 ·exact⟨-1,fun k=>by simp [c0],.inl (by omega)⟩
 simp only [c0,decide_false,cond_false]
 rw [vjx (n:=x.2.1.size) (by omega) (by omega) hx.2.1]
 by_cases c1:(a-(x.1.size:Int))-(x.2.1.size:Int)<0
 ·exact⟨-1,fun k=>by simp [c1],.inl (by omega)⟩
 simp only [c1,decide_false,cond_false]
 exact⟨((a-(x.1.size:Int))-(x.2.1.size:Int)),fun k=>rfl,.inr ⟨by omega,by rw [v86]<;>(push_cast;omega)⟩⟩
theorem viw {u0:List tVersion.D}{u2:Int}:∀(l:List tVersion.D) (s:Int) (i:Nat),(∀y∈l,tVersion.wf y)→0≤s→s≤1048576→
  ∃e,(∀k,vl1 u0 u2 l s i k=k e)∧((∃z,e = .inl z∧z.2.1<0)∨∃z,e = .inr z∧0≤z.1∧z.1=s-(wtL tVersion l:Int))
 |[],s,i,_,h0,h1=>⟨.inr (s,(i:Int)),fun k=>rfl,.inr ⟨_,rfl,h0,by simp [wtL]⟩⟩
 |y::l,s,i,hl,h0,h1=>by
  obtain⟨r,q,p⟩:=v0b (hl y (by simp)) h0 h1
  simp only [vl1,q]
  rcases p with p|⟨p,e⟩
  ·exact⟨.inl (r,(-1:Int),(i:Int)),fun k=>by simp only [p,decide_true,cond_true],.inl ⟨_,rfl,by simp⟩⟩
  ·have c:¬r<0:=by omega
   simp only [c,decide_false,cond_false]
   obtain⟨e',q',p'⟩:=viw l r (i+1) (fun y hy=>hl y (by simp [hy])) p (by omega)
   exact⟨e',q',p'.imp id fun⟨z,z1,z2,z3⟩=>⟨z,z1,z2,by rw [z3,e];simp only [wtL];push_cast;omega⟩⟩
theorem vv7 {x:List tVersion.D}(hx:(Ty.slice tVersion).wf x){a:Int}(h0:0≤a)(h1:a≤1048576):vmy (vya x a) a ((Ty.slice tVersion).wt x):=by
 rw [waw]
 unfold vmy
 simp only [v4f]
 rw [vjx (n:=x.length) h0 h1 hx.1]
 by_cases c0:a-(x.length:Int)<0
 ·exact⟨-1,fun k=>by simp [c0],.inl (by omega)⟩
 simp only [c0,decide_false,cond_false]
 have hlen:x.length<9223372036854775807:=by omega
 simp only [wfv hlen]
 obtain⟨e,q,p⟩:=viw (u0:=x) (u2:=0) x (a-(x.length:Int)) 0 hx.2 (by omega) (by omega)
 simp only [q]
 rcases p with⟨z,rfl,p⟩|⟨z,rfl,p,e⟩
 ·exact⟨z.2.1,fun k=>rfl,.inl p⟩
 ·exact⟨z.1,fun k=>rfl,.inr ⟨p,by rw [e];simp only [Ty.wt_slice];push_cast;omega⟩⟩
theorem vx4 (x:tVersion.D) (k):vtx x k=k x:=by
 rw [v75];rfl
theorem vje {u0:List tVersion.D}(z:tVersion.D):∀(l:List tVersion.D) (i:Nat),u0.drop i=l→∀K:List tVersion.D→Option Res,vgf u0 l (u0.take i++List.replicate (u0.length-i) z) i (fun z=>K z.2)=K u0
 |[],i,h,K=>by
  have:u0.length≤i:=by have:=congrArg List.length h;simp at this;omega
  simp [vgf,show u0.length-i=0 by omega,List.take_of_length_le this]
 |y::l,i,h,K=>by
  have hlt:=vc6 h
  have hg:u0[i]=y:=by have:=vkg h;rw [List.getElem?_eq_getElem hlt]at this;simpa using this
  have hrec:=vje z l (i+1) (vbd h) K
  have hsp:=vkl u0 z i hlt
  rw [hg]at hsp
  simp only [vgf,vx4,Int.toNat_natCast]
  rw [if_pos ⟨by omega,by simp;omega⟩]
  exact(congrArg (fun q=>vgf u0 l q (i+1) (fun z=>K z.2)) hsp).trans hrec
theorem vxm {x:List tVersion.D}(hl:x.length≤1048576) (k):vv1 x k=k x:=by
 rw [wjr (by omega)]
 simp only [v78,Int.toNat_natCast]
 rw [if_pos ⟨by omega,by omega,by have:((VE.maxLen:Nat):Int)=4294967296:=rfl;omega⟩]
 have:=vje (u0:=x) (Ty.zero tVersion) x 0 rfl k
 simpa using this
theorem vsz (x:tVersion.D) (k):vuq x x k=k true:=by
 rw [v8q]
 simp [v4h,vcd]
theorem vjd {u0:List tVersion.D}{u2:Bool}:∀(l:List tVersion.D) (i:Nat),u0.drop i=l→∃z,∀k,vji u0 u0 u2 l i k=k (.inr z)
 |[],i,h=>⟨_,fun k=>rfl⟩
 |y::l,i,h=>by
  have hlt:=vc6 h
  obtain⟨z,hz⟩:=vjd (u2:=u2) l (i+1) (vbd h)
  have hy:=(vap h).1
  refine⟨z,fun k=>?_⟩
  simp only [vji]
  rw [if_pos ⟨by omega,by omega⟩]
  simp only [hy,vsz,Bool.not_true,cond_false,hz]
theorem vj2 {x:List tVersion.D}(hl:x.length≤1048576) (k):vv0 x x k=k true:=by
 rw [wlw (by omega)]
 obtain⟨z,hz⟩:=vjd (u0:=x) (u2:=false) x 0 rfl
 simp [wbq,hz]
theorem v8o (x:tTxn.D):tTxn.wt x=(Ty.slice tRange).wt x.2.2.2.2.1+(Ty.slice tWrite).wt x.2.2.2.2.2.1+x.2.2.2.2.2.2.2.size:=by
 simp only [tTxn,Ty.wt]<;>omega
theorem weg {x:tTxn.D}(hx:tTxn.wf x){a:Int}(h0:0≤a)(h1:a≤1048576):vmy (vvc x a) a (tTxn.wt x):=by
 rw [wac]
 unfold v5k
 obtain⟨r0,q0,p0⟩:=v08 (x:=x.2.2.2.2.1) hx.2.2.2.2.1 (a:=a) h0 h1
 simp only [q0]
 rcases p0 with p0|⟨p0,e0⟩
 ·exact⟨-1,fun k=>by simp [p0],.inl (by omega)⟩
 have c0:¬r0<0:=by omega
 simp only [c0,decide_false,cond_false]
 obtain⟨r1,q1,p1⟩:=v02 (x:=x.2.2.2.2.2.1) hx.2.2.2.2.2.1 (a:=r0) p0 (by omega)
 simp only [q1]
 rcases p1 with p1|⟨p1,e1⟩
 ·exact⟨-1,fun k=>by simp [p1],.inl (by omega)⟩
 have c1:¬r1<0:=by omega
 simp only [c1,decide_false,cond_false]
 rw [vjx (n:=x.2.2.2.2.2.2.2.size) p1 (by omega) hx.2.2.2.2.2.2.2]
 by_cases c2:r1-(x.2.2.2.2.2.2.2.size:Int)<0
 ·exact⟨-1,fun k=>by simp [c2],.inl (by omega)⟩
 simp only [c2,decide_false,cond_false]
 exact⟨(r1-(x.2.2.2.2.2.2.2.size:Int)),fun k=>rfl,.inr ⟨by omega,by rw [v8o]<;>(push_cast;omega)⟩⟩
theorem vri {u0:List tTxn.D}{u2:Int}:∀(l:List tTxn.D) (s:Int) (i:Nat),(∀y∈l,tTxn.wf y)→0≤s→s≤1048576→
  ∃e,(∀k,vlf u0 u2 l s i k=k e)∧((∃z,e = .inl z∧z.2.1<0)∨∃z,e = .inr z∧0≤z.1∧z.1=s-(wtL tTxn l:Int))
 |[],s,i,_,h0,h1=>⟨.inr (s,(i:Int)),fun k=>rfl,.inr ⟨_,rfl,h0,by simp [wtL]⟩⟩
 |y::l,s,i,hl,h0,h1=>by
  obtain⟨r,q,p⟩:=weg (hl y (by simp)) h0 h1
  simp only [vlf,q]
  rcases p with p|⟨p,e⟩
  ·exact⟨.inl (r,(-1:Int),(i:Int)),fun k=>by simp only [p,decide_true,cond_true],.inl ⟨_,rfl,by simp⟩⟩
  ·have c:¬r<0:=by omega
   simp only [c,decide_false,cond_false]
   obtain⟨e',q',p'⟩:=vri l r (i+1) (fun y hy=>hl y (by simp [hy])) p (by omega)
   exact⟨e',q',p'.imp id fun⟨z,z1,z2,z3⟩=>⟨z,z1,z2,by rw [z3,e];simp only [wtL];push_cast;omega⟩⟩
theorem vrv {x:List tTxn.D}(hx:(Ty.slice tTxn).wf x){a:Int}(h0:0≤a)(h1:a≤1048576):vmy (vrs x a) a ((Ty.slice tTxn).wt x):=by
 rw [v7u]
 unfold vmy
 simp only [v28]
 rw [vjx (n:=x.length) h0 h1 hx.1]
 by_cases c0:a-(x.length:Int)<0
 ·exact⟨-1,fun k=>by simp [c0],.inl (by omega)⟩
 simp only [c0,decide_false,cond_false]
 have hlen:x.length<9223372036854775807:=by omega
 simp only [wdf hlen]
 obtain⟨e,q,p⟩:=vri (u0:=x) (u2:=0) x (a-(x.length:Int)) 0 hx.2 (by omega) (by omega)
 simp only [q]
 rcases p with⟨z,rfl,p⟩|⟨z,rfl,p,e⟩
 ·exact⟨z.2.1,fun k=>rfl,.inl p⟩
 ·exact⟨z.1,fun k=>rfl,.inr ⟨p,by rw [e];simp only [Ty.wt_slice];push_cast;omega⟩⟩
theorem wd8 (x:tTxn.D)(h4:x.2.2.2.2.1.length≤1048576)(h5:x.2.2.2.2.2.1.length≤1048576) (k):vqz x k=k (x.1,x.2.1,x.2.2.1,x.2.2.2.1,x.2.2.2.2.2.2.1,x.2.2.2.2.2.2.2,x.2.2.2.2.1,x.2.2.2.2.2.1):=by
 rw [v8a]
 simp only [v26,v0f h4,v1y h5]
theorem wi4 {x:tTxn.D}(h:tTxn.wt x≤1048576) (k):vqz x k=k (x.1,x.2.1,x.2.2.1,x.2.2.2.1,x.2.2.2.2.2.2.1,x.2.2.2.2.2.2.2,x.2.2.2.2.1,x.2.2.2.2.2.1):=by
 rw [v8o]at h
 exact wd8 x (vec (T:=tRange) (by omega)) (vec (T:=tWrite) (by omega)) k
theorem vrw {u0:List tTxn.D}(hu:∀y∈u0,tTxn.wt y≤1048576)(z:tTxn.D):∀(l:List tTxn.D) (i:Nat),u0.drop i=l→∀K:List tTxn.D→Option Res,vf0 u0 l (u0.take i++List.replicate (u0.length-i) z) i (fun z=>K z.2)=K u0
 |[],i,h,K=>by
  have:u0.length≤i:=by have:=congrArg List.length h;simp at this;omega
  simp [vf0,show u0.length-i=0 by omega,List.take_of_length_le this]
 |y::l,i,h,K=>by
  have hlt:=vc6 h
  have hg:u0[i]=y:=by have:=vkg h;rw [List.getElem?_eq_getElem hlt]at this;simpa using this
  have hrec:=vrw hu z l (i+1) (vbd h) K
  have hsp:=vkl u0 z i hlt
  rw [hg]at hsp
  simp only [vf0,wi4 (hu y (vlo h)),Int.toNat_natCast]
  rw [if_pos ⟨by omega,by simp;omega⟩]
  exact(congrArg (fun q=>vf0 u0 l q (i+1) (fun z=>K z.2)) hsp).trans hrec
theorem vrf {x:List tTxn.D}(hl:x.length≤1048576)(hu:∀y∈x,tTxn.wt y≤1048576) (k):vov x k=k x:=by
 rw [wky (by omega)]
 simp only [v91,Int.toNat_natCast]
 rw [if_pos ⟨by omega,by omega,by have:((VE.maxLen:Nat):Int)=4294967296:=rfl;omega⟩]
 have:=vrw (u0:=x) hu (Ty.zero tTxn) x 0 rfl k
 simpa using this
theorem vuj (x:tTxn.D)(h4:x.2.2.2.2.1.length≤1048576)(h5:x.2.2.2.2.2.1.length≤1048576) (k):vsg x x k=k true:=by
 rw [v8p]
 simp [v3y,vcd,vwt h4,vwi h5]
theorem wik {x:tTxn.D}(h:tTxn.wt x≤1048576) (k):vsg x x k=k true:=by
 rw [v8o]at h
 exact vuj x (vec (T:=tRange) (by omega)) (vec (T:=tWrite) (by omega)) k
theorem vq7 {u0:List tTxn.D}(hu:∀y∈u0,tTxn.wt y≤1048576){u2:Bool}:∀(l:List tTxn.D) (i:Nat),u0.drop i=l→∃z,∀k,vfu u0 u0 u2 l i k=k (.inr z)
 |[],i,h=>⟨_,fun k=>rfl⟩
 |y::l,i,h=>by
  have hlt:=vc6 h
  obtain⟨z,hz⟩:=vq7 hu (u2:=u2) l (i+1) (vbd h)
  have hy:=(vap h).1
  refine⟨z,fun k=>?_⟩
  simp only [vfu]
  rw [if_pos ⟨by omega,by omega⟩]
  simp only [hy,wik (hu y (vlo h)),Bool.not_true,cond_false,hz]
theorem vlj {x:List tTxn.D}(hl:x.length≤1048576)(hu:∀y∈x,tTxn.wt y≤1048576) (k):vnd x x k=k true:=by
 rw [whk (by omega)]
 obtain⟨z,hz⟩:=vq7 (u0:=x) hu (u2:=false) x 0 rfl
 simp [v4e,hz]
theorem vzv (x:tBase.D):tBase.wt x=(Ty.slice tVersion).wt x.1+(Ty.slice tTxn).wt x.2.1+(Ty.slice tTxn).wt x.2.2.1:=by
 simp only [tBase,Ty.wt]<;>omega
theorem wbi {x:tBase.D}(hx:tBase.wf x){a:Int}(h0:0≤a)(h1:a≤1048576):vmy (vyw x a) a (tBase.wt x):=by
 rw [v83]
 unfold v3d
 obtain⟨r0,q0,p0⟩:=vv7 (x:=x.1) hx.1 (a:=a) h0 h1
 simp only [q0]
 rcases p0 with p0|⟨p0,e0⟩
 ·exact⟨-1,fun k=>by simp [p0],.inl (by omega)⟩
 have c0:¬r0<0:=by omega
 simp only [c0,decide_false,cond_false]
 obtain⟨r1,q1,p1⟩:=vrv (x:=x.2.1) hx.2.1 (a:=r0) p0 (by omega)
 simp only [q1]
 rcases p1 with p1|⟨p1,e1⟩
 ·exact⟨-1,fun k=>by simp [p1],.inl (by omega)⟩
 have c1:¬r1<0:=by omega
 simp only [c1,decide_false,cond_false]
 obtain⟨r2,q2,p2⟩:=vrv (x:=x.2.2.1) hx.2.2.1 (a:=r1) p1 (by omega)
 simp only [q2]
 rcases p2 with p2|⟨p2,e2⟩
 ·exact⟨-1,fun k=>by simp [p2],.inl (by omega)⟩
 have c2:¬r2<0:=by omega
 simp only [c2,decide_false,cond_false]
 exact⟨r2,fun k=>rfl,.inr ⟨by omega,by rw [vzv]<;>(push_cast;omega)⟩⟩
theorem wbh (x:tBase.D)(h0:x.1.length≤1048576)(h1:x.2.1.length≤1048576)(g1:∀y∈x.2.1,tTxn.wt y≤1048576)(h2:x.2.2.1.length≤1048576)(g2:∀y∈x.2.2.1,tTxn.wt y≤1048576) (k):vuz x k=k (x.2.2.2.1,x.2.2.2.2,x.1,x.2.1,x.2.2.1):=by
 rw [v9p]
 simp only [v49,vxm h0,vrf h1 g1,vrf h2 g2]
theorem wch {x:tBase.D}(h:tBase.wt x≤1048576) (k):vuz x k=k (x.2.2.2.1,x.2.2.2.2,x.1,x.2.1,x.2.2.1):=by
 rw [vzv]at h
 exact wbh x (vec (T:=tVersion) (by omega)) (vec (T:=tTxn) (by omega)) (fun y hy=>ve4 hy (by omega)) (vec (T:=tTxn) (by omega)) (fun y hy=>ve4 hy (by omega)) k
theorem v0n (x:tBase.D)(h0:x.1.length≤1048576)(h1:x.2.1.length≤1048576)(g1:∀y∈x.2.1,tTxn.wt y≤1048576)(h2:x.2.2.1.length≤1048576)(g2:∀y∈x.2.2.1,tTxn.wt y≤1048576) (k):vt7 x x k=k true:=by
 rw [v40]
 simp [vyj,vcd,vj2 h0,vlj h1 g1,vlj h2 g2]
theorem wc1 {x:tBase.D}(h:tBase.wt x≤1048576) (k):vt7 x x k=k true:=by
 rw [vzv]at h
 exact v0n x (vec (T:=tVersion) (by omega)) (vec (T:=tTxn) (by omega)) (fun y hy=>ve4 hy (by omega)) (vec (T:=tTxn) (by omega)) (fun y hy=>ve4 hy (by omega)) k
theorem vmj (x:tEngine.D):tEngine.wt x=tBase.wt x.1+(Ty.slice tTxn).wt x.2:=by
 simp only [tEngine,Ty.wt]<;>omega
theorem v0z {x:tEngine.D}(hx:tEngine.wf x){a:Int}(h0:0≤a)(h1:a≤1048576):vmy (vvz x a) a (tEngine.wt x):=by
 rw [wbn]
 unfold v4c
 obtain⟨r0,q0,p0⟩:=wbi (x:=x.1) hx.1 (a:=a) h0 h1
 simp only [q0]
 rcases p0 with p0|⟨p0,e0⟩
 ·exact⟨-1,fun k=>by simp [p0],.inl (by omega)⟩
 have c0:¬r0<0:=by omega
 simp only [c0,decide_false,cond_false]
 obtain⟨r1,q1,p1⟩:=vrv (x:=x.2) hx.2 (a:=r0) p0 (by omega)
 simp only [q1]
 rcases p1 with p1|⟨p1,e1⟩
 ·exact⟨-1,fun k=>by simp [p1],.inl (by omega)⟩
 have c1:¬r1<0:=by omega
 simp only [c1,decide_false,cond_false]
 exact⟨r1,fun k=>rfl,.inr ⟨by omega,by rw [vmj]<;>(push_cast;omega)⟩⟩
theorem v0q (x:tEngine.D)(h0:tBase.wt x.1≤1048576)(h1:x.2.length≤1048576)(g1:∀y∈x.2,tTxn.wt y≤1048576) (k):vfc x k=k (x.1.2.2.2.1,x.1.2.2.2.2,x.1.1,x.1.2.1,x.1.2.2.1,x.2):=by
 rw [v8v]
 simp only [v37,wch h0,vrf h1 g1]
theorem vuk {x:tEngine.D}(h:tEngine.wt x≤1048576) (k):vfc x k=k (x.1.2.2.2.1,x.1.2.2.2.2,x.1.1,x.1.2.1,x.1.2.2.1,x.2):=by
 rw [vmj]at h
 exact v0q x (by omega) (vec (T:=tTxn) (by omega)) (fun y hy=>ve4 hy (by omega)) k
theorem vwa (x:tEngine.D)(h0:tBase.wt x.1≤1048576)(h1:x.2.length≤1048576)(g1:∀y∈x.2,tTxn.wt y≤1048576) (k):vd1 x x k=k true:=by
 rw [v35]
 simp [vy5,vcd,wc1 h0,vlj h1 g1]
theorem vun {x:tEngine.D}(h:tEngine.wt x≤1048576) (k):vd1 x x k=k true:=by
 rw [vmj]at h
 exact vwa x (by omega) (vec (T:=tTxn) (by omega)) (fun y hy=>ve4 hy (by omega)) k
end Go.VE
