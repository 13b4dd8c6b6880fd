/- Plain laws of the helpers of all laws: sizes, copies, comparisons; written by plib.py. -/
import Derived.Test.YtbaniaofomgceaaTidiedW
import Derived.Test.YtbaniaofomgceaaP2
namespace Go.VE
set_option linter.unusedVariables false
set_option linter.unusedSimpArgs false
set_option maxRecDepth 100000
theorem wef (x:tRange.D):tRange.wt x=x.1.size+x.2.size:=by
 simp only [tRange,Ty.wt]<;>omega
theorem v34 {x:tRange.D}(hx:tRange.wf x){a:Int}(h0:0≤a)(h1:a≤1048576):vm1 (vtl x a) a (tRange.wt x):=by
 rw [v7r]
 unfold v2s
 rw [vh4 (n:=x.1.size) h0 h1 hx.1]
 by_cases c0:a-(x.1.size:Int)<0
 ·exact⟨-1,fun k=>by simp [c0],.inl (by omega)⟩
 simp only [c0,decide_false,cond_false]
 rw [vh4 (n:=x.2.size) (by omega) (by omega) hx.2]
 by_cases c1:(a-(x.1.size:Int))-(x.2.size:Int)<0
 ·exact⟨-1,fun k=>by simp [c1],.inl (by omega)⟩
 simp only [c1,decide_false,cond_false]
 exact⟨((a-(x.1.size:Int))-(x.2.size:Int)),fun k=>rfl,.inr ⟨by omega,by rw [wef]<;>(push_cast;omega)⟩⟩
theorem vme {u0:List tRange.D}{u2:Int}:∀(l:List tRange.D) (s:Int) (i:Nat),(∀y∈l,tRange.wf y)→0≤s→s≤1048576→
  ∃e,(∀k,vk2 u0 u2 l s i k=k e)∧((∃z,e = .inl z∧z.2.1<0)∨∃z,e = .inr z∧0≤z.1∧z.1=s-(wtL tRange l:Int))
 |[],s,i,_,h0,h1=>⟨.inr (s,(i:Int)),fun k=>rfl,.inr ⟨_,rfl,h0,by simp [wtL]⟩⟩
 |y::l,s,i,hl,h0,h1=>by
  obtain⟨r,q,p⟩:=v34 (hl y (by simp)) h0 h1
  simp only [vk2,q]
  rcases p with p|⟨p,e⟩
  ·exact⟨.inl (r,(-1:Int),(i:Int)),fun k=>by simp only [p,decide_true,cond_true],.inl ⟨_,rfl,by simp⟩⟩
  ·have c:¬r<0:=by omega
   simp only [c,decide_false,cond_false]
   obtain⟨e',q',p'⟩:=vme l r (i+1) (fun y hy=>hl y (by simp [hy])) p (by omega)
   exact⟨e',q',p'.imp id fun⟨z,z1,z2,z3⟩=>⟨z,z1,z2,by rw [z3,e];simp only [wtL];push_cast;omega⟩⟩
theorem vzj {x:List tRange.D}(hx:(Ty.slice tRange).wf x){a:Int}(h0:0≤a)(h1:a≤1048576):vm1 (vxt x a) a ((Ty.slice tRange).wt x):=by
 rw [v7t]
 unfold vm1
 simp only [v0w]
 rw [vh4 (n:=x.length) h0 h1 hx.1]
 by_cases c0:a-(x.length:Int)<0
 ·exact⟨-1,fun k=>by simp [c0],.inl (by omega)⟩
 simp only [c0,decide_false,cond_false]
 have hlen:x.length<9223372036854775807:=by omega
 simp only [v8s hlen]
 obtain⟨e,q,p⟩:=vme (u0:=x) (u2:=0) x (a-(x.length:Int)) 0 hx.2 (by omega) (by omega)
 simp only [q]
 rcases p with⟨z,rfl,p⟩|⟨z,rfl,p,e⟩
 ·exact⟨z.2.1,fun k=>rfl,.inl p⟩
 ·exact⟨z.1,fun k=>rfl,.inr ⟨p,by rw [e];simp only [Ty.wt_slice];push_cast;omega⟩⟩
theorem v3p (x:tRange.D) (k):vr5 x k=k x:=by
 rw [v6h];rfl
theorem vl4 {u0:List tRange.D}(z:tRange.D):∀(l:List tRange.D) (i:Nat),u0.drop i=l→∀K:List tRange.D→Option Res,vfo u0 l (u0.take i++List.replicate (u0.length-i) z) i (fun z=>K z.2)=K u0
 |[],i,h,K=>by
  have:u0.length≤i:=by have:=congrArg List.length h;simp at this;omega
  simp [vfo,show u0.length-i=0 by omega,List.take_of_length_le this]
 |y::l,i,h,K=>by
  have hlt:=vcu h
  have hg:u0[i]=y:=by have:=vjv h;rw [List.getElem?_eq_getElem hlt]at this;simpa using this
  have hrec:=vl4 z l (i+1) (vba h) K
  have hsp:=vjz u0 z i hlt
  rw [hg]at hsp
  simp only [vfo,v3p,Int.toNat_natCast]
  rw [if_pos ⟨by omega,by simp;omega⟩]
  exact(congrArg (fun q=>vfo u0 l q (i+1) (fun z=>K z.2)) hsp).trans hrec
theorem vzo {x:List tRange.D}(hl:x.length≤1048576) (k):vt9 x k=k x:=by
 rw [we0 (by omega)]
 simp only [v4b,Int.toNat_natCast]
 rw [if_pos ⟨by omega,by omega,by have:((VE.maxLen:Nat):Int)=4294967296:=rfl;omega⟩]
 have:=vl4 (u0:=x) (Ty.zero tRange) x 0 rfl k
 simpa using this
theorem vwh (x:tRange.D) (k):vsq x x k=k true:=by
 rw [v58]
 simp [v1t,vck]
theorem vmd {u0:List tRange.D}{u2:Bool}:∀(l:List tRange.D) (i:Nat),u0.drop i=l→∃z,∀k,vig u0 u0 u2 l i k=k (.inr z)
 |[],i,h=>⟨_,fun k=>rfl⟩
 |y::l,i,h=>by
  have hlt:=vcu h
  obtain⟨z,hz⟩:=vmd (u2:=u2) l (i+1) (vba h)
  have hy:=(var h).1
  refine⟨z,fun k=>?_⟩
  simp only [vig]
  rw [if_pos ⟨by omega,by omega⟩]
  simp only [hy,vwh,Bool.not_true,cond_false,hz]
theorem vuf {x:List tRange.D}(hl:x.length≤1048576) (k):vsu x x k=k true:=by
 rw [wgc (by omega)]
 obtain⟨z,hz⟩:=vmd (u0:=x) (u2:=false) x 0 rfl
 simp [v5b,hz]
theorem wd8 (x:tWrite.D):tWrite.wt x=x.1.size+x.2.1.size:=by
 simp only [tWrite,Ty.wt]<;>omega
theorem v3h {x:tWrite.D}(hx:tWrite.wf x){a:Int}(h0:0≤a)(h1:a≤1048576):vm1 (vse x a) a (tWrite.wt x):=by
 rw [v4a]
 unfold v1r
 rw [vh4 (n:=x.1.size) h0 h1 hx.1]
 by_cases c0:a-(x.1.size:Int)<0
 ·exact⟨-1,fun k=>by simp [c0],.inl (by omega)⟩
 simp only [c0,decide_false,cond_false]
 rw [vh4 (n:=x.2.1.size) (by omega) (by omega) hx.2.1]
 by_cases c1:(a-(x.1.size:Int))-(x.2.1.size:Int)<0
 ·exact⟨-1,fun k=>by simp [c1],.inl (by omega)⟩
 simp only [c1,decide_false,cond_false]
 exact⟨((a-(x.1.size:Int))-(x.2.1.size:Int)),fun k=>rfl,.inr ⟨by omega,by rw [wd8]<;>(push_cast;omega)⟩⟩
theorem vl0 {u0:List tWrite.D}{u2:Int}:∀(l:List tWrite.D) (s:Int) (i:Nat),(∀y∈l,tWrite.wf y)→0≤s→s≤1048576→
  ∃e,(∀k,vky u0 u2 l s i k=k e)∧((∃z,e = .inl z∧z.2.1<0)∨∃z,e = .inr z∧0≤z.1∧z.1=s-(wtL tWrite l:Int))
 |[],s,i,_,h0,h1=>⟨.inr (s,(i:Int)),fun k=>rfl,.inr ⟨_,rfl,h0,by simp [wtL]⟩⟩
 |y::l,s,i,hl,h0,h1=>by
  obtain⟨r,q,p⟩:=v3h (hl y (by simp)) h0 h1
  simp only [vky,q]
  rcases p with p|⟨p,e⟩
  ·exact⟨.inl (r,(-1:Int),(i:Int)),fun k=>by simp only [p,decide_true,cond_true],.inl ⟨_,rfl,by simp⟩⟩
  ·have c:¬r<0:=by omega
   simp only [c,decide_false,cond_false]
   obtain⟨e',q',p'⟩:=vl0 l r (i+1) (fun y hy=>hl y (by simp [hy])) p (by omega)
   exact⟨e',q',p'.imp id fun⟨z,z1,z2,z3⟩=>⟨z,z1,z2,by rw [z3,e];simp only [wtL];push_cast;omega⟩⟩
theorem vyp {x:List tWrite.D}(hx:(Ty.slice tWrite).wf x){a:Int}(h0:0≤a)(h1:a≤1048576):vm1 (vwm x a) a ((Ty.slice tWrite).wt x):=by
 rw [v6s]
 unfold vm1
 simp only [v03]
 rw [vh4 (n:=x.length) h0 h1 hx.1]
 by_cases c0:a-(x.length:Int)<0
 ·exact⟨-1,fun k=>by simp [c0],.inl (by omega)⟩
 simp only [c0,decide_false,cond_false]
 have hlen:x.length<9223372036854775807:=by omega
 simp only [v9b hlen]
 obtain⟨e,q,p⟩:=vl0 (u0:=x) (u2:=0) x (a-(x.length:Int)) 0 hx.2 (by omega) (by omega)
 simp only [q]
 rcases p with⟨z,rfl,p⟩|⟨z,rfl,p,e⟩
 ·exact⟨z.2.1,fun k=>rfl,.inl p⟩
 ·exact⟨z.1,fun k=>rfl,.inr ⟨p,by rw [e];simp only [Ty.wt_slice];push_cast;omega⟩⟩
theorem v27 (x:tWrite.D) (k):vsf x k=k x:=by
 rw [v6m];rfl
theorem vlr {u0:List tWrite.D}(z:tWrite.D):∀(l:List tWrite.D) (i:Nat),u0.drop i=l→∀K:List tWrite.D→Option Res,vfq u0 l (u0.take i++List.replicate (u0.length-i) z) i (fun z=>K z.2)=K u0
 |[],i,h,K=>by
  have:u0.length≤i:=by have:=congrArg List.length h;simp at this;omega
  simp [vfq,show u0.length-i=0 by omega,List.take_of_length_le this]
 |y::l,i,h,K=>by
  have hlt:=vcu h
  have hg:u0[i]=y:=by have:=vjv h;rw [List.getElem?_eq_getElem hlt]at this;simpa using this
  have hrec:=vlr z l (i+1) (vba h) K
  have hsp:=vjz u0 z i hlt
  rw [hg]at hsp
  simp only [vfq,v27,Int.toNat_natCast]
  rw [if_pos ⟨by omega,by simp;omega⟩]
  exact(congrArg (fun q=>vfq u0 l q (i+1) (fun z=>K z.2)) hsp).trans hrec
theorem vy3 {x:List tWrite.D}(hl:x.length≤1048576) (k):vsa x k=k x:=by
 rw [wfd (by omega)]
 simp only [v5g,Int.toNat_natCast]
 rw [if_pos ⟨by omega,by omega,by have:((VE.maxLen:Nat):Int)=4294967296:=rfl;omega⟩]
 have:=vlr (u0:=x) (Ty.zero tWrite) x 0 rfl k
 simpa using this
theorem vw3 (x:tWrite.D) (k):vtb x x k=k true:=by
 rw [v5o]
 simp [v05,vck]
theorem vl9 {u0:List tWrite.D}{u2:Bool}:∀(l:List tWrite.D) (i:Nat),u0.drop i=l→∃z,∀k,vjo u0 u0 u2 l i k=k (.inr z)
 |[],i,h=>⟨_,fun k=>rfl⟩
 |y::l,i,h=>by
  have hlt:=vcu h
  obtain⟨z,hz⟩:=vl9 (u2:=u2) l (i+1) (vba h)
  have hy:=(var h).1
  refine⟨z,fun k=>?_⟩
  simp only [vjo]
  rw [if_pos ⟨by omega,by omega⟩]
  simp only [hy,vw3,Bool.not_true,cond_false,hz]
theorem vuk {x:List tWrite.D}(hl:x.length≤1048576) (k):vt0 x x k=k true:=by
 rw [wgl (by omega)]
 obtain⟨z,hz⟩:=vl9 (u0:=x) (u2:=false) x 0 rfl
 simp [v4k,hz]
theorem v69 (x:tVersion.D):tVersion.wt x=x.1.size+x.2.1.size:=by
 simp only [tVersion,Ty.wt]<;>omega
theorem vxg {x:tVersion.D}(hx:tVersion.wf x){a:Int}(h0:0≤a)(h1:a≤1048576):vm1 (vt4 x a) a (tVersion.wt x):=by
 rw [v4e]
 unfold v13
 rw [vh4 (n:=x.1.size) h0 h1 hx.1]
 by_cases c0:a-(x.1.size:Int)<0
 ·exact⟨-1,fun k=>by simp [c0],.inl (by omega)⟩
 simp only [c0,decide_false,cond_false]
 rw [vh4 (n:=x.2.1.size) (by omega) (by omega) hx.2.1]
 by_cases c1:(a-(x.1.size:Int))-(x.2.1.size:Int)<0
 ·exact⟨-1,fun k=>by simp [c1],.inl (by omega)⟩
 simp only [c1,decide_false,cond_false]
 exact⟨((a-(x.1.size:Int))-(x.2.1.size:Int)),fun k=>rfl,.inr ⟨by omega,by rw [v69]<;>(push_cast;omega)⟩⟩
theorem vhu {u0:List tVersion.D}{u2:Int}:∀(l:List tVersion.D) (s:Int) (i:Nat),(∀y∈l,tVersion.wf y)→0≤s→s≤1048576→
  ∃e,(∀k,vkm u0 u2 l s i k=k e)∧((∃z,e = .inl z∧z.2.1<0)∨∃z,e = .inr z∧0≤z.1∧z.1=s-(wtL tVersion l:Int))
 |[],s,i,_,h0,h1=>⟨.inr (s,(i:Int)),fun k=>rfl,.inr ⟨_,rfl,h0,by simp [wtL]⟩⟩
 |y::l,s,i,hl,h0,h1=>by
  obtain⟨r,q,p⟩:=vxg (hl y (by simp)) h0 h1
  simp only [vkm,q]
  rcases p with p|⟨p,e⟩
  ·exact⟨.inl (r,(-1:Int),(i:Int)),fun k=>by simp only [p,decide_true,cond_true],.inl ⟨_,rfl,by simp⟩⟩
  ·have c:¬r<0:=by omega
   simp only [c,decide_false,cond_false]
   obtain⟨e',q',p'⟩:=vhu l r (i+1) (fun y hy=>hl y (by simp [hy])) p (by omega)
   exact⟨e',q',p'.imp id fun⟨z,z1,z2,z3⟩=>⟨z,z1,z2,by rw [z3,e];simp only [wtL];push_cast;omega⟩⟩
theorem vvf {x:List tVersion.D}(hx:(Ty.slice tVersion).wf x){a:Int}(h0:0≤a)(h1:a≤1048576):vm1 (vww x a) a ((Ty.slice tVersion).wt x):=by
 rw [v52]
 unfold vm1
 simp only [v0s]
 rw [vh4 (n:=x.length) h0 h1 hx.1]
 by_cases c0:a-(x.length:Int)<0
 ·exact⟨-1,fun k=>by simp [c0],.inl (by omega)⟩
 simp only [c0,decide_false,cond_false]
 have hlen:x.length<9223372036854775807:=by omega
 simp only [v8g hlen]
 obtain⟨e,q,p⟩:=vhu (u0:=x) (u2:=0) x (a-(x.length:Int)) 0 hx.2 (by omega) (by omega)
 simp only [q]
 rcases p with⟨z,rfl,p⟩|⟨z,rfl,p,e⟩
 ·exact⟨z.2.1,fun k=>rfl,.inl p⟩
 ·exact⟨z.1,fun k=>rfl,.inr ⟨p,by rw [e];simp only [Ty.wt_slice];push_cast;omega⟩⟩
theorem vxs (x:tVersion.D) (k):vtv x k=k x:=by
 rw [v5j];rfl
theorem viu {u0:List tVersion.D}(z:tVersion.D):∀(l:List tVersion.D) (i:Nat),u0.drop i=l→∀K:List tVersion.D→Option Res,vf7 u0 l (u0.take i++List.replicate (u0.length-i) z) i (fun z=>K z.2)=K u0
 |[],i,h,K=>by
  have:u0.length≤i:=by have:=congrArg List.length h;simp at this;omega
  simp [vf7,show u0.length-i=0 by omega,List.take_of_length_le this]
 |y::l,i,h,K=>by
  have hlt:=vcu h
  have hg:u0[i]=y:=by have:=vjv h;rw [List.getElem?_eq_getElem hlt]at this;simpa using this
  have hrec:=viu z l (i+1) (vba h) K
  have hsp:=vjz u0 z i hlt
  rw [hg]at hsp
  simp only [vf7,vxs,Int.toNat_natCast]
  rw [if_pos ⟨by omega,by simp;omega⟩]
  exact(congrArg (fun q=>vf7 u0 l q (i+1) (fun z=>K z.2)) hsp).trans hrec
theorem vu1 {x:List tVersion.D}(hl:x.length≤1048576) (k):vtx x k=k x:=by
 rw [wf4 (by omega)]
 simp only [v7h,Int.toNat_natCast]
 rw [if_pos ⟨by omega,by omega,by have:((VE.maxLen:Nat):Int)=4294967296:=rfl;omega⟩]
 have:=viu (u0:=x) (Ty.zero tVersion) x 0 rfl k
 simpa using this
theorem vr3 (x:tVersion.D) (k):vub x x k=k true:=by
 rw [v5t]
 simp [v2l,vck]
theorem vhw {u0:List tVersion.D}{u2:Bool}:∀(l:List tVersion.D) (i:Nat),u0.drop i=l→∃z,∀k,vi2 u0 u0 u2 l i k=k (.inr z)
 |[],i,h=>⟨_,fun k=>rfl⟩
 |y::l,i,h=>by
  have hlt:=vcu h
  obtain⟨z,hz⟩:=vhw (u2:=u2) l (i+1) (vba h)
  have hy:=(var h).1
  refine⟨z,fun k=>?_⟩
  simp only [vi2]
  rw [if_pos ⟨by omega,by omega⟩]
  simp only [hy,vr3,Bool.not_true,cond_false,hz]
theorem vjn {x:List tVersion.D}(hl:x.length≤1048576) (k):vt5 x x k=k true:=by
 rw [we3 (by omega)]
 obtain⟨z,hz⟩:=vhw (u0:=x) (u2:=false) x 0 rfl
 simp [v4f,hz]
theorem v6t (x:tTxn.D):tTxn.wt x=(Ty.slice tRange).wt x.2.2.2.2.1+(Ty.slice tWrite).wt x.2.2.2.2.2.1+x.2.2.2.2.2.2.2.size:=by
 simp only [tTxn,Ty.wt]<;>omega
theorem v8u {x:tTxn.D}(hx:tTxn.wf x){a:Int}(h0:0≤a)(h1:a≤1048576):vm1 (vtw x a) a (tTxn.wt x):=by
 rw [v5y]
 unfold v2f
 obtain⟨r0,q0,p0⟩:=vzj (x:=x.2.2.2.2.1) hx.2.2.2.2.1 (a:=a) h0 h1
 simp only [q0]
 rcases p0 with p0|⟨p0,e0⟩
 ·exact⟨-1,fun k=>by simp [p0],.inl (by omega)⟩
 have c0:¬r0<0:=by omega
 simp only [c0,decide_false,cond_false]
 obtain⟨r1,q1,p1⟩:=vyp (x:=x.2.2.2.2.2.1) hx.2.2.2.2.2.1 (a:=r0) p0 (by omega)
 simp only [q1]
 rcases p1 with p1|⟨p1,e1⟩
 ·exact⟨-1,fun k=>by simp [p1],.inl (by omega)⟩
 have c1:¬r1<0:=by omega
 simp only [c1,decide_false,cond_false]
 rw [vh4 (n:=x.2.2.2.2.2.2.2.size) p1 (by omega) hx.2.2.2.2.2.2.2]
 by_cases c2:r1-(x.2.2.2.2.2.2.2.size:Int)<0
 ·exact⟨-1,fun k=>by simp [c2],.inl (by omega)⟩
 simp only [c2,decide_false,cond_false]
 exact⟨(r1-(x.2.2.2.2.2.2.2.size:Int)),fun k=>rfl,.inr ⟨by omega,by rw [v6t]<;>(push_cast;omega)⟩⟩
theorem vqj {u0:List tTxn.D}{u2:Int}:∀(l:List tTxn.D) (s:Int) (i:Nat),(∀y∈l,tTxn.wf y)→0≤s→s≤1048576→
  ∃e,(∀k,vlc u0 u2 l s i k=k e)∧((∃z,e = .inl z∧z.2.1<0)∨∃z,e = .inr z∧0≤z.1∧z.1=s-(wtL tTxn l:Int))
 |[],s,i,_,h0,h1=>⟨.inr (s,(i:Int)),fun k=>rfl,.inr ⟨_,rfl,h0,by simp [wtL]⟩⟩
 |y::l,s,i,hl,h0,h1=>by
  obtain⟨r,q,p⟩:=v8u (hl y (by simp)) h0 h1
  simp only [vlc,q]
  rcases p with p|⟨p,e⟩
  ·exact⟨.inl (r,(-1:Int),(i:Int)),fun k=>by simp only [p,decide_true,cond_true],.inl ⟨_,rfl,by simp⟩⟩
  ·have c:¬r<0:=by omega
   simp only [c,decide_false,cond_false]
   obtain⟨e',q',p'⟩:=vqj l r (i+1) (fun y hy=>hl y (by simp [hy])) p (by omega)
   exact⟨e',q',p'.imp id fun⟨z,z1,z2,z3⟩=>⟨z,z1,z2,by rw [z3,e];simp only [wtL];push_cast;omega⟩⟩
theorem vqz {x:List tTxn.D}(hx:(Ty.slice tTxn).wf x){a:Int}(h0:0≤a)(h1:a≤1048576):vm1 (vnr x a) a ((Ty.slice tTxn).wt x):=by
 rw [v4y]
 unfold vm1
 simp only [v2c]
 rw [vh4 (n:=x.length) h0 h1 hx.1]
 by_cases c0:a-(x.length:Int)<0
 ·exact⟨-1,fun k=>by simp [c0],.inl (by omega)⟩
 simp only [c0,decide_false,cond_false]
 have hlen:x.length<9223372036854775807:=by omega
 simp only [wap hlen]
 obtain⟨e,q,p⟩:=vqj (u0:=x) (u2:=0) x (a-(x.length:Int)) 0 hx.2 (by omega) (by omega)
 simp only [q]
 rcases p with⟨z,rfl,p⟩|⟨z,rfl,p,e⟩
 ·exact⟨z.2.1,fun k=>rfl,.inl p⟩
 ·exact⟨z.1,fun k=>rfl,.inr ⟨p,by rw [e];simp only [Ty.wt_slice];push_cast;omega⟩⟩
theorem v95 (x:tTxn.D)(h4:x.2.2.2.2.1.length≤1048576)(h5:x.2.2.2.2.2.1.length≤1048576) (k):vpm x k=k (x.1,x.2.1,x.2.2.1,x.2.2.2.1,x.2.2.2.2.2.2.1,x.2.2.2.2.2.2.2,x.2.2.2.2.1,x.2.2.2.2.2.1):=by
 rw [v4i]
 simp only [v2m,vzo h4,vy3 h5]
theorem wdx {x:tTxn.D}(h:tTxn.wt x≤1048576) (k):vpm x k=k (x.1,x.2.1,x.2.2.1,x.2.2.2.1,x.2.2.2.2.2.2.1,x.2.2.2.2.2.2.2,x.2.2.2.2.1,x.2.2.2.2.2.1):=by
 rw [v6t]at h
 exact v95 x (vex (T:=tRange) (by omega)) (vex (T:=tWrite) (by omega)) k
theorem vqy {u0:List tTxn.D}(hu:∀y∈u0,tTxn.wt y≤1048576)(z:tTxn.D):∀(l:List tTxn.D) (i:Nat),u0.drop i=l→∀K:List tTxn.D→Option Res,vf0 u0 l (u0.take i++List.replicate (u0.length-i) z) i (fun z=>K z.2)=K u0
 |[],i,h,K=>by
  have:u0.length≤i:=by have:=congrArg List.length h;simp at this;omega
  simp [vf0,show u0.length-i=0 by omega,List.take_of_length_le this]
 |y::l,i,h,K=>by
  have hlt:=vcu h
  have hg:u0[i]=y:=by have:=vjv h;rw [List.getElem?_eq_getElem hlt]at this;simpa using this
  have hrec:=vqy hu z l (i+1) (vba h) K
  have hsp:=vjz u0 z i hlt
  rw [hg]at hsp
  simp only [vf0,wdx (hu y (vk5 h)),Int.toNat_natCast]
  rw [if_pos ⟨by omega,by simp;omega⟩]
  exact(congrArg (fun q=>vf0 u0 l q (i+1) (fun z=>K z.2)) hsp).trans hrec
theorem vqa {x:List tTxn.D}(hl:x.length≤1048576)(hu:∀y∈x,tTxn.wt y≤1048576) (k):veo x k=k x:=by
 rw [wgg (by omega)]
 simp only [v45,Int.toNat_natCast]
 rw [if_pos ⟨by omega,by omega,by have:((VE.maxLen:Nat):Int)=4294967296:=rfl;omega⟩]
 have:=vqy (u0:=x) hu (Ty.zero tTxn) x 0 rfl k
 simpa using this
theorem vr7 (x:tTxn.D)(h4:x.2.2.2.2.1.length≤1048576)(h5:x.2.2.2.2.2.1.length≤1048576) (k):vpt x x k=k true:=by
 rw [v6o]
 simp [v2n,vck,vuf h4,vuk h5]
theorem wd2 {x:tTxn.D}(h:tTxn.wt x≤1048576) (k):vpt x x k=k true:=by
 rw [v6t]at h
 exact vr7 x (vex (T:=tRange) (by omega)) (vex (T:=tWrite) (by omega)) k
theorem vpq {u0:List tTxn.D}(hu:∀y∈u0,tTxn.wt y≤1048576){u2:Bool}:∀(l:List tTxn.D) (i:Nat),u0.drop i=l→∃z,∀k,vgb u0 u0 u2 l i k=k (.inr z)
 |[],i,h=>⟨_,fun k=>rfl⟩
 |y::l,i,h=>by
  have hlt:=vcu h
  obtain⟨z,hz⟩:=vpq hu (u2:=u2) l (i+1) (vba h)
  have hy:=(var h).1
  refine⟨z,fun k=>?_⟩
  simp only [vgb]
  rw [if_pos ⟨by omega,by omega⟩]
  simp only [hy,wd2 (hu y (vk5 h)),Bool.not_true,cond_false,hz]
theorem vkr {x:List tTxn.D}(hl:x.length≤1048576)(hu:∀y∈x,tTxn.wt y≤1048576) (k):vkh x x k=k true:=by
 rw [wcg (by omega)]
 obtain⟨z,hz⟩:=vpq (u0:=x) hu (u2:=false) x 0 rfl
 simp [v0r,hz]
theorem vw5 (x:tBase.D):tBase.wt x=(Ty.slice tVersion).wt x.1+(Ty.slice tTxn).wt x.2.1+(Ty.slice tTxn).wt x.2.2.1:=by
 simp only [tBase,Ty.wt]<;>omega
theorem v7k {x:tBase.D}(hx:tBase.wf x){a:Int}(h0:0≤a)(h1:a≤1048576):vm1 (vt3 x a) a (tBase.wt x):=by
 rw [v5n]
 unfold v1i
 obtain⟨r0,q0,p0⟩:=vvf (x:=x.1) hx.1 (a:=a) h0 h1
 simp only [q0]
 rcases p0 with p0|⟨p0,e0⟩
 ·exact⟨-1,fun k=>by simp [p0],.inl (by omega)⟩
 have c0:¬r0<0:=by omega
 simp only [c0,decide_false,cond_false]
 obtain⟨r1,q1,p1⟩:=vqz (x:=x.2.1) hx.2.1 (a:=r0) p0 (by omega)
 simp only [q1]
 rcases p1 with p1|⟨p1,e1⟩
 ·exact⟨-1,fun k=>by simp [p1],.inl (by omega)⟩
 have c1:¬r1<0:=by omega
 simp only [c1,decide_false,cond_false]
 obtain⟨r2,q2,p2⟩:=vqz (x:=x.2.2.1) hx.2.2.1 (a:=r1) p1 (by omega)
 simp only [q2]
 rcases p2 with p2|⟨p2,e2⟩
 ·exact⟨-1,fun k=>by simp [p2],.inl (by omega)⟩
 have c2:¬r2<0:=by omega
 simp only [c2,decide_false,cond_false]
 exact⟨r2,fun k=>rfl,.inr ⟨by omega,by rw [vw5]<;>(push_cast;omega)⟩⟩
theorem v6y (x:tBase.D)(h0:x.1.length≤1048576)(h1:x.2.1.length≤1048576)(g1:∀y∈x.2.1,tTxn.wt y≤1048576)(h2:x.2.2.1.length≤1048576)(g2:∀y∈x.2.2.1,tTxn.wt y≤1048576) (k):vgn x k=k (x.2.2.2.1,x.2.2.2.2,x.1,x.2.1,x.2.2.1):=by
 rw [v6w]
 simp only [v02,vu1 h0,vqa h1 g1,vqa h2 g2]
theorem v93 {x:tBase.D}(h:tBase.wt x≤1048576) (k):vgn x k=k (x.2.2.2.1,x.2.2.2.2,x.1,x.2.1,x.2.2.1):=by
 rw [vw5]at h
 exact v6y x (vex (T:=tVersion) (by omega)) (vex (T:=tTxn) (by omega)) (fun y hy=>vgv hy (by omega)) (vex (T:=tTxn) (by omega)) (fun y hy=>vgv hy (by omega)) k
theorem vz8 (x:tBase.D)(h0:x.1.length≤1048576)(h1:x.2.1.length≤1048576)(g1:∀y∈x.2.1,tTxn.wt y≤1048576)(h2:x.2.2.1.length≤1048576)(g2:∀y∈x.2.2.1,tTxn.wt y≤1048576) (k):ve2 x x k=k true:=by
 rw [v10]
 simp [vwy,vck,vjn h0,vkr h1 g1,vkr h2 g2]
theorem v96 {x:tBase.D}(h:tBase.wt x≤1048576) (k):ve2 x x k=k true:=by
 rw [vw5]at h
 exact vz8 x (vex (T:=tVersion) (by omega)) (vex (T:=tTxn) (by omega)) (fun y hy=>vgv hy (by omega)) (vex (T:=tTxn) (by omega)) (fun y hy=>vgv hy (by omega)) k
end Go.VE
