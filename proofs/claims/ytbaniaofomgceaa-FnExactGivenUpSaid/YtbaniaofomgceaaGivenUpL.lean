/- Plain laws of the helpers of all laws: sizes, copies, comparisons; written by plib.py. -/
import Derived.Test.YtbaniaofomgceaaGivenUpW
import Derived.Test.YtbaniaofomgceaaP2
namespace Go.VE
set_option linter.unusedVariables false
set_option linter.unusedSimpArgs false
set_option maxRecDepth 100000
theorem v97 (x:tRange.D):tRange.wt x=x.1.size+x.2.size:=by
 simp only [tRange,Ty.wt]<;>omega
theorem v1g {x:tRange.D}(hx:tRange.wf x){a:Int}(h0:0≤a)(h1:a≤1048576):vlb (vq9 x a) a (tRange.wt x):=by
 rw [v14]
 unfold vya
 rw [vhe (n:=x.1.size) h0 h1 hx.1]
 by_cases c0:a-(x.1.size:Int)<0
 ·exact⟨-1,fun k=>by simp [c0],.inl (by omega)⟩
 simp only [c0,decide_false,cond_false]
 rw [vhe (n:=x.2.size) (by omega) (by omega) hx.2]
 by_cases c1:(a-(x.1.size:Int))-(x.2.size:Int)<0
 ·exact⟨-1,fun k=>by simp [c1],.inl (by omega)⟩
 simp only [c1,decide_false,cond_false]
 exact⟨((a-(x.1.size:Int))-(x.2.size:Int)),fun k=>rfl,.inr ⟨by omega,by rw [v97]<;>(push_cast;omega)⟩⟩
theorem vkd {u0:List tRange.D}{u2:Int}:∀(l:List tRange.D) (s:Int) (i:Nat),(∀y∈l,tRange.wf y)→0≤s→s≤1048576→
  ∃e,(∀k,vjn u0 u2 l s i k=k e)∧((∃z,e = .inl z∧z.2.1<0)∨∃z,e = .inr z∧0≤z.1∧z.1=s-(wtL tRange l:Int))
 |[],s,i,_,h0,h1=>⟨.inr (s,(i:Int)),fun k=>rfl,.inr ⟨_,rfl,h0,by simp [wtL]⟩⟩
 |y::l,s,i,hl,h0,h1=>by
  obtain⟨r,q,p⟩:=v1g (hl y (by simp)) h0 h1
  simp only [vjn,q]
  rcases p with p|⟨p,e⟩
  ·exact⟨.inl (r,(-1:Int),(i:Int)),fun k=>by simp only [p,decide_true,cond_true],.inl ⟨_,rfl,by simp⟩⟩
  ·have c:¬r<0:=by omega
   simp only [c,decide_false,cond_false]
   obtain⟨e',q',p'⟩:=vkd l r (i+1) (fun y hy=>hl y (by simp [hy])) p (by omega)
   exact⟨e',q',p'.imp id fun⟨z,z1,z2,z3⟩=>⟨z,z1,z2,by rw [z3,e];simp only [wtL];push_cast;omega⟩⟩
theorem vxj {x:List tRange.D}(hx:(Ty.slice tRange).wf x){a:Int}(h0:0≤a)(h1:a≤1048576):vlb (vvj x a) a ((Ty.slice tRange).wt x):=by
 rw [v1p]
 unfold vlb
 simp only [vyu]
 rw [vhe (n:=x.length) h0 h1 hx.1]
 by_cases c0:a-(x.length:Int)<0
 ·exact⟨-1,fun k=>by simp [c0],.inl (by omega)⟩
 simp only [c0,decide_false,cond_false]
 have hlen:x.length<9223372036854775807:=by omega
 simp only [v6r hlen]
 obtain⟨e,q,p⟩:=vkd (u0:=x) (u2:=0) x (a-(x.length:Int)) 0 hx.2 (by omega) (by omega)
 simp only [q]
 rcases p with⟨z,rfl,p⟩|⟨z,rfl,p,e⟩
 ·exact⟨z.2.1,fun k=>rfl,.inl p⟩
 ·exact⟨z.1,fun k=>rfl,.inr ⟨p,by rw [e];simp only [Ty.wt_slice];push_cast;omega⟩⟩
theorem v00 (x:tRange.D) (k):vq4 x k=k x:=by
 rw [v20];rfl
theorem vkx {u0:List tRange.D}(z:tRange.D):∀(l:List tRange.D) (i:Nat),u0.drop i=l→∀K:List tRange.D→Option Res,vfj u0 l (u0.take i++List.replicate (u0.length-i) z) i (fun z=>K z.2)=K u0
 |[],i,h,K=>by
  have:u0.length≤i:=by have:=congrArg List.length h;simp at this;omega
  simp [vfj,show u0.length-i=0 by omega,List.take_of_length_le this]
 |y::l,i,h,K=>by
  have hlt:=vez h
  have hg:u0[i]=y:=by have:=vip h;rw [List.getElem?_eq_getElem hlt]at this;simpa using this
  have hrec:=vkx z l (i+1) (vc7 h) K
  have hsp:=vin u0 z i hlt
  rw [hg]at hsp
  simp only [vfj,v00,Int.toNat_natCast]
  rw [if_pos ⟨by omega,by simp;omega⟩]
  exact(congrArg (fun q=>vfj u0 l q (i+1) (fun z=>K z.2)) hsp).trans hrec
theorem vw1 {x:List tRange.D}(hl:x.length≤1048576) (k):vqe x k=k x:=by
 rw [wb0 (by omega)]
 simp only [v4t,Int.toNat_natCast]
 rw [if_pos ⟨by omega,by omega,by have:((VE.maxLen:Nat):Int)=4294967296:=rfl;omega⟩]
 have:=vkx (u0:=x) (Ty.zero tRange) x 0 rfl k
 simpa using this
theorem vva (x:tRange.D) (k):vrm x x k=k true:=by
 rw [v1x]
 simp [vx7,vb7]
theorem vkq {u0:List tRange.D}{u2:Bool}:∀(l:List tRange.D) (i:Nat),u0.drop i=l→∃z,∀k,vhi u0 u0 u2 l i k=k (.inr z)
 |[],i,h=>⟨_,fun k=>rfl⟩
 |y::l,i,h=>by
  have hlt:=vez h
  obtain⟨z,hz⟩:=vkq (u2:=u2) l (i+1) (vc7 h)
  have hy:=(vbe h).1
  refine⟨z,fun k=>?_⟩
  simp only [vhi]
  rw [if_pos ⟨by omega,by omega⟩]
  simp only [hy,vva,Bool.not_true,cond_false,hz]
theorem vtp {x:List tRange.D}(hl:x.length≤1048576) (k):vrp x x k=k true:=by
 rw [wbf (by omega)]
 obtain⟨z,hz⟩:=vkq (u0:=x) (u2:=false) x 0 rfl
 simp [v11,hz]
theorem v9b (x:tWrite.D):tWrite.wt x=x.1.size+x.2.1.size:=by
 simp only [tWrite,Ty.wt]<;>omega
theorem vz6 {x:tWrite.D}(hx:tWrite.wf x){a:Int}(h0:0≤a)(h1:a≤1048576):vlb (vrg x a) a (tWrite.wt x):=by
 rw [v4o]
 unfold vzk
 rw [vhe (n:=x.1.size) h0 h1 hx.1]
 by_cases c0:a-(x.1.size:Int)<0
 ·exact⟨-1,fun k=>by simp [c0],.inl (by omega)⟩
 simp only [c0,decide_false,cond_false]
 rw [vhe (n:=x.2.1.size) (by omega) (by omega) hx.2.1]
 by_cases c1:(a-(x.1.size:Int))-(x.2.1.size:Int)<0
 ·exact⟨-1,fun k=>by simp [c1],.inl (by omega)⟩
 simp only [c1,decide_false,cond_false]
 exact⟨((a-(x.1.size:Int))-(x.2.1.size:Int)),fun k=>rfl,.inr ⟨by omega,by rw [v9b]<;>(push_cast;omega)⟩⟩
theorem vk6 {u0:List tWrite.D}{u2:Int}:∀(l:List tWrite.D) (s:Int) (i:Nat),(∀y∈l,tWrite.wf y)→0≤s→s≤1048576→
  ∃e,(∀k,vji u0 u2 l s i k=k e)∧((∃z,e = .inl z∧z.2.1<0)∨∃z,e = .inr z∧0≤z.1∧z.1=s-(wtL tWrite l:Int))
 |[],s,i,_,h0,h1=>⟨.inr (s,(i:Int)),fun k=>rfl,.inr ⟨_,rfl,h0,by simp [wtL]⟩⟩
 |y::l,s,i,hl,h0,h1=>by
  obtain⟨r,q,p⟩:=vz6 (hl y (by simp)) h0 h1
  simp only [vji,q]
  rcases p with p|⟨p,e⟩
  ·exact⟨.inl (r,(-1:Int),(i:Int)),fun k=>by simp only [p,decide_true,cond_true],.inl ⟨_,rfl,by simp⟩⟩
  ·have c:¬r<0:=by omega
   simp only [c,decide_false,cond_false]
   obtain⟨e',q',p'⟩:=vk6 l r (i+1) (fun y hy=>hl y (by simp [hy])) p (by omega)
   exact⟨e',q',p'.imp id fun⟨z,z1,z2,z3⟩=>⟨z,z1,z2,by rw [z3,e];simp only [wtL];push_cast;omega⟩⟩
theorem vwj {x:List tWrite.D}(hx:(Ty.slice tWrite).wf x){a:Int}(h0:0≤a)(h1:a≤1048576):vlb (vt7 x a) a ((Ty.slice tWrite).wt x):=by
 rw [v13]
 unfold vlb
 simp only [vy4]
 rw [vhe (n:=x.length) h0 h1 hx.1]
 by_cases c0:a-(x.length:Int)<0
 ·exact⟨-1,fun k=>by simp [c0],.inl (by omega)⟩
 simp only [c0,decide_false,cond_false]
 have hlen:x.length<9223372036854775807:=by omega
 simp only [v5b hlen]
 obtain⟨e,q,p⟩:=vk6 (u0:=x) (u2:=0) x (a-(x.length:Int)) 0 hx.2 (by omega) (by omega)
 simp only [q]
 rcases p with⟨z,rfl,p⟩|⟨z,rfl,p,e⟩
 ·exact⟨z.2.1,fun k=>rfl,.inl p⟩
 ·exact⟨z.1,fun k=>rfl,.inr ⟨p,by rw [e];simp only [Ty.wt_slice];push_cast;omega⟩⟩
theorem v0p (x:tWrite.D) (k):vqf x k=k x:=by
 rw [v2i];rfl
theorem vko {u0:List tWrite.D}(z:tWrite.D):∀(l:List tWrite.D) (i:Nat),u0.drop i=l→∀K:List tWrite.D→Option Res,ve8 u0 l (u0.take i++List.replicate (u0.length-i) z) i (fun z=>K z.2)=K u0
 |[],i,h,K=>by
  have:u0.length≤i:=by have:=congrArg List.length h;simp at this;omega
  simp [ve8,show u0.length-i=0 by omega,List.take_of_length_le this]
 |y::l,i,h,K=>by
  have hlt:=vez h
  have hg:u0[i]=y:=by have:=vip h;rw [List.getElem?_eq_getElem hlt]at this;simpa using this
  have hrec:=vko z l (i+1) (vc7 h) K
  have hsp:=vin u0 z i hlt
  rw [hg]at hsp
  simp only [ve8,v0p,Int.toNat_natCast]
  rw [if_pos ⟨by omega,by simp;omega⟩]
  exact(congrArg (fun q=>ve8 u0 l q (i+1) (fun z=>K z.2)) hsp).trans hrec
theorem vw4 {x:List tWrite.D}(hl:x.length≤1048576) (k):vqr x k=k x:=by
 rw [wbb (by omega)]
 simp only [v31,Int.toNat_natCast]
 rw [if_pos ⟨by omega,by omega,by have:((VE.maxLen:Nat):Int)=4294967296:=rfl;omega⟩]
 have:=vko (u0:=x) (Ty.zero tWrite) x 0 rfl k
 simpa using this
theorem vuf (x:tWrite.D) (k):vq0 x x k=k true:=by
 rw [v1v]
 simp [vzy,vb7]
theorem vkh {u0:List tWrite.D}{u2:Bool}:∀(l:List tWrite.D) (i:Nat),u0.drop i=l→∃z,∀k,vib u0 u0 u2 l i k=k (.inr z)
 |[],i,h=>⟨_,fun k=>rfl⟩
 |y::l,i,h=>by
  have hlt:=vez h
  obtain⟨z,hz⟩:=vkh (u2:=u2) l (i+1) (vc7 h)
  have hy:=(vbe h).1
  refine⟨z,fun k=>?_⟩
  simp only [vib]
  rw [if_pos ⟨by omega,by omega⟩]
  simp only [hy,vuf,Bool.not_true,cond_false,hz]
theorem vsw {x:List tWrite.D}(hl:x.length≤1048576) (k):vq3 x x k=k true:=by
 rw [waz (by omega)]
 obtain⟨z,hz⟩:=vkh (u0:=x) (u2:=false) x 0 rfl
 simp [v4a,hz]
theorem v1y (x:tVersion.D):tVersion.wt x=x.1.size+x.2.1.size:=by
 simp only [tVersion,Ty.wt]<;>omega
theorem vv3 {x:tVersion.D}(hx:tVersion.wf x){a:Int}(h0:0≤a)(h1:a≤1048576):vlb (vqv x a) a (tVersion.wt x):=by
 rw [v2o]
 unfold vyf
 rw [vhe (n:=x.1.size) h0 h1 hx.1]
 by_cases c0:a-(x.1.size:Int)<0
 ·exact⟨-1,fun k=>by simp [c0],.inl (by omega)⟩
 simp only [c0,decide_false,cond_false]
 rw [vhe (n:=x.2.1.size) (by omega) (by omega) hx.2.1]
 by_cases c1:(a-(x.1.size:Int))-(x.2.1.size:Int)<0
 ·exact⟨-1,fun k=>by simp [c1],.inl (by omega)⟩
 simp only [c1,decide_false,cond_false]
 exact⟨((a-(x.1.size:Int))-(x.2.1.size:Int)),fun k=>rfl,.inr ⟨by omega,by rw [v1y]<;>(push_cast;omega)⟩⟩
theorem vik {u0:List tVersion.D}{u2:Int}:∀(l:List tVersion.D) (s:Int) (i:Nat),(∀y∈l,tVersion.wf y)→0≤s→s≤1048576→
  ∃e,(∀k,vjq u0 u2 l s i k=k e)∧((∃z,e = .inl z∧z.2.1<0)∨∃z,e = .inr z∧0≤z.1∧z.1=s-(wtL tVersion l:Int))
 |[],s,i,_,h0,h1=>⟨.inr (s,(i:Int)),fun k=>rfl,.inr ⟨_,rfl,h0,by simp [wtL]⟩⟩
 |y::l,s,i,hl,h0,h1=>by
  obtain⟨r,q,p⟩:=vv3 (hl y (by simp)) h0 h1
  simp only [vjq,q]
  rcases p with p|⟨p,e⟩
  ·exact⟨.inl (r,(-1:Int),(i:Int)),fun k=>by simp only [p,decide_true,cond_true],.inl ⟨_,rfl,by simp⟩⟩
  ·have c:¬r<0:=by omega
   simp only [c,decide_false,cond_false]
   obtain⟨e',q',p'⟩:=vik l r (i+1) (fun y hy=>hl y (by simp [hy])) p (by omega)
   exact⟨e',q',p'.imp id fun⟨z,z1,z2,z3⟩=>⟨z,z1,z2,by rw [z3,e];simp only [wtL];push_cast;omega⟩⟩
theorem vtm {x:List tVersion.D}(hx:(Ty.slice tVersion).wf x){a:Int}(h0:0≤a)(h1:a≤1048576):vlb (vv0 x a) a ((Ty.slice tVersion).wt x):=by
 rw [v4c]
 unfold vlb
 simp only [vx1]
 rw [vhe (n:=x.length) h0 h1 hx.1]
 by_cases c0:a-(x.length:Int)<0
 ·exact⟨-1,fun k=>by simp [c0],.inl (by omega)⟩
 simp only [c0,decide_false,cond_false]
 have hlen:x.length<9223372036854775807:=by omega
 simp only [v45 hlen]
 obtain⟨e,q,p⟩:=vik (u0:=x) (u2:=0) x (a-(x.length:Int)) 0 hx.2 (by omega) (by omega)
 simp only [q]
 rcases p with⟨z,rfl,p⟩|⟨z,rfl,p,e⟩
 ·exact⟨z.2.1,fun k=>rfl,.inl p⟩
 ·exact⟨z.1,fun k=>rfl,.inr ⟨p,by rw [e];simp only [Ty.wt_slice];push_cast;omega⟩⟩
theorem vuq (x:tVersion.D) (k):vrs x k=k x:=by
 rw [v2k];rfl
theorem vh6 {u0:List tVersion.D}(z:tVersion.D):∀(l:List tVersion.D) (i:Nat),u0.drop i=l→∀K:List tVersion.D→Option Res,vfh u0 l (u0.take i++List.replicate (u0.length-i) z) i (fun z=>K z.2)=K u0
 |[],i,h,K=>by
  have:u0.length≤i:=by have:=congrArg List.length h;simp at this;omega
  simp [vfh,show u0.length-i=0 by omega,List.take_of_length_le this]
 |y::l,i,h,K=>by
  have hlt:=vez h
  have hg:u0[i]=y:=by have:=vip h;rw [List.getElem?_eq_getElem hlt]at this;simpa using this
  have hrec:=vh6 z l (i+1) (vc7 h) K
  have hsp:=vin u0 z i hlt
  rw [hg]at hsp
  simp only [vfh,vuq,Int.toNat_natCast]
  rw [if_pos ⟨by omega,by simp;omega⟩]
  exact(congrArg (fun q=>vfh u0 l q (i+1) (fun z=>K z.2)) hsp).trans hrec
theorem vsu {x:List tVersion.D}(hl:x.length≤1048576) (k):vqo x k=k x:=by
 rw [wa6 (by omega)]
 simp only [v26,Int.toNat_natCast]
 rw [if_pos ⟨by omega,by omega,by have:((VE.maxLen:Nat):Int)=4294967296:=rfl;omega⟩]
 have:=vh6 (u0:=x) (Ty.zero tVersion) x 0 rfl k
 simpa using this
theorem vp2 (x:tVersion.D) (k):vqb x x k=k true:=by
 rw [v4g]
 simp [vzf,vb7]
theorem vhv {u0:List tVersion.D}{u2:Bool}:∀(l:List tVersion.D) (i:Nat),u0.drop i=l→∃z,∀k,vg6 u0 u0 u2 l i k=k (.inr z)
 |[],i,h=>⟨_,fun k=>rfl⟩
 |y::l,i,h=>by
  have hlt:=vez h
  obtain⟨z,hz⟩:=vhv (u2:=u2) l (i+1) (vc7 h)
  have hy:=(vbe h).1
  refine⟨z,fun k=>?_⟩
  simp only [vg6]
  rw [if_pos ⟨by omega,by omega⟩]
  simp only [hy,vp2,Bool.not_true,cond_false,hz]
theorem vhc {x:List tVersion.D}(hl:x.length≤1048576) (k):vqp x x k=k true:=by
 rw [wb1 (by omega)]
 obtain⟨z,hz⟩:=vhv (u0:=x) (u2:=false) x 0 rfl
 simp [v22,hz]
theorem v1s (x:tTxn.D):tTxn.wt x=(Ty.slice tRange).wt x.2.2.2.2.1+(Ty.slice tWrite).wt x.2.2.2.2.2.1+x.2.2.2.2.2.2.2.size:=by
 simp only [tTxn,Ty.wt]<;>omega
theorem v7j {x:tTxn.D}(hx:tTxn.wf x){a:Int}(h0:0≤a)(h1:a≤1048576):vlb (vsc x a) a (tTxn.wt x):=by
 rw [v33]
 unfold vz0
 obtain⟨r0,q0,p0⟩:=vxj (x:=x.2.2.2.2.1) hx.2.2.2.2.1 (a:=a) h0 h1
 simp only [q0]
 rcases p0 with p0|⟨p0,e0⟩
 ·exact⟨-1,fun k=>by simp [p0],.inl (by omega)⟩
 have c0:¬r0<0:=by omega
 simp only [c0,decide_false,cond_false]
 obtain⟨r1,q1,p1⟩:=vwj (x:=x.2.2.2.2.2.1) hx.2.2.2.2.2.1 (a:=r0) p0 (by omega)
 simp only [q1]
 rcases p1 with p1|⟨p1,e1⟩
 ·exact⟨-1,fun k=>by simp [p1],.inl (by omega)⟩
 have c1:¬r1<0:=by omega
 simp only [c1,decide_false,cond_false]
 rw [vhe (n:=x.2.2.2.2.2.2.2.size) p1 (by omega) hx.2.2.2.2.2.2.2]
 by_cases c2:r1-(x.2.2.2.2.2.2.2.size:Int)<0
 ·exact⟨-1,fun k=>by simp [c2],.inl (by omega)⟩
 simp only [c2,decide_false,cond_false]
 exact⟨(r1-(x.2.2.2.2.2.2.2.size:Int)),fun k=>rfl,.inr ⟨by omega,by rw [v1s]<;>(push_cast;omega)⟩⟩
theorem voo {u0:List tTxn.D}{u2:Int}:∀(l:List tTxn.D) (s:Int) (i:Nat),(∀y∈l,tTxn.wf y)→0≤s→s≤1048576→
  ∃e,(∀k,vj3 u0 u2 l s i k=k e)∧((∃z,e = .inl z∧z.2.1<0)∨∃z,e = .inr z∧0≤z.1∧z.1=s-(wtL tTxn l:Int))
 |[],s,i,_,h0,h1=>⟨.inr (s,(i:Int)),fun k=>rfl,.inr ⟨_,rfl,h0,by simp [wtL]⟩⟩
 |y::l,s,i,hl,h0,h1=>by
  obtain⟨r,q,p⟩:=v7j (hl y (by simp)) h0 h1
  simp only [vj3,q]
  rcases p with p|⟨p,e⟩
  ·exact⟨.inl (r,(-1:Int),(i:Int)),fun k=>by simp only [p,decide_true,cond_true],.inl ⟨_,rfl,by simp⟩⟩
  ·have c:¬r<0:=by omega
   simp only [c,decide_false,cond_false]
   obtain⟨e',q',p'⟩:=voo l r (i+1) (fun y hy=>hl y (by simp [hy])) p (by omega)
   exact⟨e',q',p'.imp id fun⟨z,z1,z2,z3⟩=>⟨z,z1,z2,by rw [z3,e];simp only [wtL];push_cast;omega⟩⟩
theorem vu3 {x:List tTxn.D}(hx:(Ty.slice tTxn).wf x){a:Int}(h0:0≤a)(h1:a≤1048576):vlb (vqi x a) a ((Ty.slice tTxn).wt x):=by
 rw [v2x]
 unfold vlb
 simp only [vy5]
 rw [vhe (n:=x.length) h0 h1 hx.1]
 by_cases c0:a-(x.length:Int)<0
 ·exact⟨-1,fun k=>by simp [c0],.inl (by omega)⟩
 simp only [c0,decide_false,cond_false]
 have hlen:x.length<9223372036854775807:=by omega
 simp only [v5o hlen]
 obtain⟨e,q,p⟩:=voo (u0:=x) (u2:=0) x (a-(x.length:Int)) 0 hx.2 (by omega) (by omega)
 simp only [q]
 rcases p with⟨z,rfl,p⟩|⟨z,rfl,p,e⟩
 ·exact⟨z.2.1,fun k=>rfl,.inl p⟩
 ·exact⟨z.1,fun k=>rfl,.inr ⟨p,by rw [e];simp only [Ty.wt_slice];push_cast;omega⟩⟩
theorem v7l (x:tTxn.D)(h4:x.2.2.2.2.1.length≤1048576)(h5:x.2.2.2.2.2.1.length≤1048576) (k):vnw x k=k (x.1,x.2.1,x.2.2.1,x.2.2.2.1,x.2.2.2.2.2.2.1,x.2.2.2.2.2.2.2,x.2.2.2.2.1,x.2.2.2.2.2.1):=by
 rw [v4s]
 simp only [vzp,vw1 h4,vw4 h5]
theorem v9u {x:tTxn.D}(h:tTxn.wt x≤1048576) (k):vnw x k=k (x.1,x.2.1,x.2.2.1,x.2.2.2.1,x.2.2.2.2.2.2.1,x.2.2.2.2.2.2.2,x.2.2.2.2.1,x.2.2.2.2.2.1):=by
 rw [v1s]at h
 exact v7l x (ver (T:=tRange) (by omega)) (ver (T:=tWrite) (by omega)) k
theorem vot {u0:List tTxn.D}(hu:∀y∈u0,tTxn.wt y≤1048576)(z:tTxn.D):∀(l:List tTxn.D) (i:Nat),u0.drop i=l→∀K:List tTxn.D→Option Res,vfa u0 l (u0.take i++List.replicate (u0.length-i) z) i (fun z=>K z.2)=K u0
 |[],i,h,K=>by
  have:u0.length≤i:=by have:=congrArg List.length h;simp at this;omega
  simp [vfa,show u0.length-i=0 by omega,List.take_of_length_le this]
 |y::l,i,h,K=>by
  have hlt:=vez h
  have hg:u0[i]=y:=by have:=vip h;rw [List.getElem?_eq_getElem hlt]at this;simpa using this
  have hrec:=vot hu z l (i+1) (vc7 h) K
  have hsp:=vin u0 z i hlt
  rw [hg]at hsp
  simp only [vfa,v9u (hu y (vjj h)),Int.toNat_natCast]
  rw [if_pos ⟨by omega,by simp;omega⟩]
  exact(congrArg (fun q=>vfa u0 l q (i+1) (fun z=>K z.2)) hsp).trans hrec
theorem vvo {x:List tTxn.D}(hl:x.length≤1048576)(hu:∀y∈x,tTxn.wt y≤1048576) (k):vop x k=k x:=by
 rw [wai (by omega)]
 simp only [v3n,Int.toNat_natCast]
 rw [if_pos ⟨by omega,by omega,by have:((VE.maxLen:Nat):Int)=4294967296:=rfl;omega⟩]
 have:=vot (u0:=x) hu (Ty.zero tTxn) x 0 rfl k
 simpa using this
theorem vqm (x:tTxn.D)(h4:x.2.2.2.2.1.length≤1048576)(h5:x.2.2.2.2.2.1.length≤1048576) (k):vpq x x k=k true:=by
 rw [v2d]
 simp [vy2,vb7,vtp h4,vsw h5]
theorem v9a {x:tTxn.D}(h:tTxn.wt x≤1048576) (k):vpq x x k=k true:=by
 rw [v1s]at h
 exact vqm x (ver (T:=tRange) (by omega)) (ver (T:=tWrite) (by omega)) k
theorem vnt {u0:List tTxn.D}(hu:∀y∈u0,tTxn.wt y≤1048576){u2:Bool}:∀(l:List tTxn.D) (i:Nat),u0.drop i=l→∃z,∀k,vfn u0 u0 u2 l i k=k (.inr z)
 |[],i,h=>⟨_,fun k=>rfl⟩
 |y::l,i,h=>by
  have hlt:=vez h
  obtain⟨z,hz⟩:=vnt hu (u2:=u2) l (i+1) (vc7 h)
  have hy:=(vbe h).1
  refine⟨z,fun k=>?_⟩
  simp only [vfn]
  rw [if_pos ⟨by omega,by omega⟩]
  simp only [hy,v9a (hu y (vjj h)),Bool.not_true,cond_false,hz]
theorem vo9 {x:List tTxn.D}(hl:x.length≤1048576)(hu:∀y∈x,tTxn.wt y≤1048576) (k):vmn x x k=k true:=by
 rw [v7x (by omega)]
 obtain⟨z,hz⟩:=vnt (u0:=x) hu (u2:=false) x 0 rfl
 simp [vzx,hz]
theorem vui (x:tBase.D):tBase.wt x=(Ty.slice tVersion).wt x.1+(Ty.slice tTxn).wt x.2.1+(Ty.slice tTxn).wt x.2.2.1:=by
 simp only [tBase,Ty.wt]<;>omega
theorem v4e {x:tBase.D}(hx:tBase.wf x){a:Int}(h0:0≤a)(h1:a≤1048576):vlb (vrh x a) a (tBase.wt x):=by
 rw [v2a]
 unfold vye
 obtain⟨r0,q0,p0⟩:=vtm (x:=x.1) hx.1 (a:=a) h0 h1
 simp only [q0]
 rcases p0 with p0|⟨p0,e0⟩
 ·exact⟨-1,fun k=>by simp [p0],.inl (by omega)⟩
 have c0:¬r0<0:=by omega
 simp only [c0,decide_false,cond_false]
 obtain⟨r1,q1,p1⟩:=vu3 (x:=x.2.1) hx.2.1 (a:=r0) p0 (by omega)
 simp only [q1]
 rcases p1 with p1|⟨p1,e1⟩
 ·exact⟨-1,fun k=>by simp [p1],.inl (by omega)⟩
 have c1:¬r1<0:=by omega
 simp only [c1,decide_false,cond_false]
 obtain⟨r2,q2,p2⟩:=vu3 (x:=x.2.2.1) hx.2.2.1 (a:=r1) p1 (by omega)
 simp only [q2]
 rcases p2 with p2|⟨p2,e2⟩
 ·exact⟨-1,fun k=>by simp [p2],.inl (by omega)⟩
 have c2:¬r2<0:=by omega
 simp only [c2,decide_false,cond_false]
 exact⟨r2,fun k=>rfl,.inr ⟨by omega,by rw [vui]<;>(push_cast;omega)⟩⟩
theorem v4b (x:tBase.D)(h0:x.1.length≤1048576)(h1:x.2.1.length≤1048576)(g1:∀y∈x.2.1,tTxn.wt y≤1048576)(h2:x.2.2.1.length≤1048576)(g2:∀y∈x.2.2.1,tTxn.wt y≤1048576) (k):vf6 x k=k (x.2.2.2.1,x.2.2.2.2,x.1,x.2.1,x.2.2.1):=by
 rw [v4f]
 simp only [vyg,vsu h0,vvo h1 g1,vvo h2 g2]
theorem v7g {x:tBase.D}(h:tBase.wt x≤1048576) (k):vf6 x k=k (x.2.2.2.1,x.2.2.2.2,x.1,x.2.1,x.2.2.1):=by
 rw [vui]at h
 exact v4b x (ver (T:=tVersion) (by omega)) (ver (T:=tTxn) (by omega)) (fun y hy=>vij hy (by omega)) (ver (T:=tTxn) (by omega)) (fun y hy=>vij hy (by omega)) k
theorem vxo (x:tBase.D)(h0:x.1.length≤1048576)(h1:x.2.1.length≤1048576)(g1:∀y∈x.2.1,tTxn.wt y≤1048576)(h2:x.2.2.1.length≤1048576)(g2:∀y∈x.2.2.1,tTxn.wt y≤1048576) (k):vel x x k=k true:=by
 rw [vzt]
 simp [vv7,vb7,vhc h0,vo9 h1 g1,vo9 h2 g2]
theorem v64 {x:tBase.D}(h:tBase.wt x≤1048576) (k):vel x x k=k true:=by
 rw [vui]at h
 exact vxo x (ver (T:=tVersion) (by omega)) (ver (T:=tTxn) (by omega)) (fun y hy=>vij hy (by omega)) (ver (T:=tTxn) (by omega)) (fun y hy=>vij hy (by omega)) k
end Go.VE
