/- Plain laws of the helpers of all laws: sizes, copies, comparisons; written by plib.py. -/
import Derived.Test.YtcccpkohlkfhoaaScanAtW
import Derived.Test.YtcccpkohlkfhoaaP2
namespace Go.VE
set_option linter.unusedVariables false
set_option linter.unusedSimpArgs false
set_option maxRecDepth 100000
abbrev tPair:Ty:=tRange
theorem v2c (x:tRange.D):tRange.wt x=x.1.size+x.2.size:=by
 simp only [tRange,Ty.wt]<;>omega
theorem vvy {x:tRange.D}(hx:tRange.wf x){a:Int}(h0:0≤a)(h1:a≤1048576):v0f (vnn x a) a (tRange.wt x):=by
 rw [vxo]
 unfold vum
 rw [vqu (n:=x.1.size) h0 h1 hx.1]
 by_cases c0:a-(x.1.size:Int)<0
 ·exact⟨-1,fun k=>by simp [c0],.inl (by omega)⟩
 simp only [c0,decide_false,cond_false]
 rw [vqu (n:=x.2.size) (by omega) (by omega) hx.2]
 by_cases c1:(a-(x.1.size:Int))-(x.2.size:Int)<0
 ·exact⟨-1,fun k=>by simp [c1],.inl (by omega)⟩
 simp only [c1,decide_false,cond_false]
 exact⟨((a-(x.1.size:Int))-(x.2.size:Int)),fun k=>rfl,.inr ⟨by omega,by rw [v2c]<;>(push_cast;omega)⟩⟩
theorem vvm (x:tRange.D) (k):vhp x k=k x:=by
 rw [vwy];rfl
theorem vyb (x:tVersion.D):tVersion.wt x=x.1.size+x.2.1.size:=by
 simp only [tVersion,Ty.wt]<;>omega
theorem vq4 {x:tVersion.D}(hx:tVersion.wf x){a:Int}(h0:0≤a)(h1:a≤1048576):v0f (vnp x a) a (tVersion.wt x):=by
 rw [vx2]
 unfold vug
 rw [vqu (n:=x.1.size) h0 h1 hx.1]
 by_cases c0:a-(x.1.size:Int)<0
 ·exact⟨-1,fun k=>by simp [c0],.inl (by omega)⟩
 simp only [c0,decide_false,cond_false]
 rw [vqu (n:=x.2.1.size) (by omega) (by omega) hx.2.1]
 by_cases c1:(a-(x.1.size:Int))-(x.2.1.size:Int)<0
 ·exact⟨-1,fun k=>by simp [c1],.inl (by omega)⟩
 simp only [c1,decide_false,cond_false]
 exact⟨((a-(x.1.size:Int))-(x.2.1.size:Int)),fun k=>rfl,.inr ⟨by omega,by rw [vyb]<;>(push_cast;omega)⟩⟩
theorem vgc {u0:List tVersion.D}{u2:Int}:∀(l:List tVersion.D)(s:Int)(i:Nat),(∀y∈l,tVersion.wf y)→0≤s→s≤1048576→
  ∃e,(∀k,via u0 u2 l s i k=k e)∧((∃z,e = .inl z∧z.2.1<0)∨∃z,e = .inr z∧0≤z.1∧z.1=s-(wtL tVersion l:Int))
 |[],s,i,_,h0,h1=>⟨.inr (s,(i:Int)),fun k=>rfl,.inr ⟨_,rfl,h0,by simp [wtL]⟩⟩
 |y::l,s,i,hl,h0,h1=>by
  obtain⟨r,q,p⟩:=vq4 (hl y (by simp)) h0 h1
  simp only [via,q]
  rcases p with p|⟨p,e⟩
  ·exact⟨.inl (r,(-1:Int),(i:Int)),fun k=>by simp only [p,decide_true,cond_true],.inl ⟨_,rfl,by simp⟩⟩
  ·have c:¬r<0:=by omega
   simp only [c,decide_false,cond_false]
   obtain⟨e',q',p'⟩:=vgc l r (i+1) (fun y hy=>hl y (by simp [hy])) p (by omega)
   exact⟨e',q',p'.imp id fun⟨z,z1,z2,z3⟩=>⟨z,z1,z2,by rw [z3,e];simp only [wtL];push_cast;omega⟩⟩
theorem vph {x:List tVersion.D}(hx:(Ty.slice tVersion).wf x){a:Int}(h0:0≤a)(h1:a≤1048576):v0f (vng x a) a ((Ty.slice tVersion).wt x):=by
 rw [vwa]
 unfold v0f
 simp only [vt1]
 rw [vqu (n:=x.length) h0 h1 hx.1]
 by_cases c0:a-(x.length:Int)<0
 ·exact⟨-1,fun k=>by simp [c0],.inl (by omega)⟩
 simp only [c0,decide_false,cond_false]
 have hlen:x.length<9223372036854775807:=by omega
 simp only [vy2 hlen]
 obtain⟨e,q,p⟩:=vgc (u0:=x) (u2:=0) x (a-(x.length:Int)) 0 hx.2 (by omega) (by omega)
 simp only [q]
 rcases p with⟨z,rfl,p⟩|⟨z,rfl,p,e⟩
 ·exact⟨z.2.1,fun k=>rfl,.inl p⟩
 ·exact⟨z.1,fun k=>rfl,.inr ⟨p,by rw [e];simp only [Ty.wt_slice];push_cast;omega⟩⟩
theorem vqt (x:tVersion.D) (k):vn0 x k=k x:=by
 rw [vv7];rfl
theorem vf3 {u0:List tVersion.D}(z:tVersion.D):∀(l:List tVersion.D)(i:Nat),u0.drop i=l→∀K:List tVersion.D→Option Res,vei u0 l (u0.take i++List.replicate (u0.length-i) z) i (fun z=>K z.2)=K u0
 |[],i,h,K=>by
  have:u0.length≤i:=by have:=congrArg List.length h;simp at this;omega
  simp [vei,show u0.length-i=0 by omega,List.take_of_length_le this]
 |y::l,i,h,K=>by
  have hlt:=vcr h
  have hg:u0[i]=y:=by have:=vow h;rw [List.getElem?_eq_getElem hlt]at this;simpa using this
  have hrec:=vf3 z l (i+1) (vap h) K
  have hsp:=vvd u0 z i hlt
  rw [hg]at hsp
  simp only [vei,vqt,Int.toNat_natCast]
  rw [if_pos ⟨by omega,by simp;omega⟩]
  exact(congrArg (fun q=>vei u0 l q (i+1) (fun z=>K z.2)) hsp).trans hrec
theorem vo4 {x:List tVersion.D}(hl:x.length≤1048576) (k):ve1 x k=k x:=by
 rw [v2i (by omega)]
 simp only [vyj,Int.toNat_natCast]
 rw [if_pos ⟨by omega,by omega,by have:((VE.maxLen:Nat):Int)=4294967296:=rfl;omega⟩]
 have:=vf3 (u0:=x) (Ty.zero tVersion) x 0 rfl k
 simpa using this
theorem vmg (x:tVersion.D) (k):vmr x x k=k true:=by
 rw [vxn]
 simp [vui,ve5]
theorem vgk {u0:List tVersion.D}{u2:Bool}:∀(l:List tVersion.D)(i:Nat),u0.drop i=l→∃z,∀k,vf0 u0 u0 u2 l i k=k (.inr z)
 |[],i,h=>⟨_,fun k=>rfl⟩
 |y::l,i,h=>by
  have hlt:=vcr h
  obtain⟨z,hz⟩:=vgk (u2:=u2) l (i+1) (vap h)
  have hy:=(vbq h).1
  refine⟨z,fun k=>?_⟩
  simp only [vf0]
  rw [if_pos ⟨by omega,by omega⟩]
  simp only [hy,vmg,Bool.not_true,cond_false,hz]
theorem vlr {x:List tVersion.D}(hl:x.length≤1048576) (k):vln x x k=k true:=by
 rw [v27 (by omega)]
 obtain⟨z,hz⟩:=vgk (u0:=x) (u2:=false) x 0 rfl
 simp [vwg,hz]
theorem vrp (x:tPair.D) (k):vno x x k=k true:=by
 rw [vw4]
 simp [vt7,ve5]
theorem vjq {u0:List tPair.D}{u2:Bool}:∀(l:List tPair.D)(i:Nat),u0.drop i=l→∃z,∀k,vf6 u0 u0 u2 l i k=k (.inr z)
 |[],i,h=>⟨_,fun k=>rfl⟩
 |y::l,i,h=>by
  have hlt:=vcr h
  obtain⟨z,hz⟩:=vjq (u2:=u2) l (i+1) (vap h)
  have hy:=(vbq h).1
  refine⟨z,fun k=>?_⟩
  simp only [vf6]
  rw [if_pos ⟨by omega,by omega⟩]
  simp only [hy,vrp,Bool.not_true,cond_false,hz]
theorem vq8 {x:List tPair.D}(hl:x.length≤1048576) (k):vf8 x x k=k true:=by
 rw [v2s (by omega)]
 obtain⟨z,hz⟩:=vjq (u0:=x) (u2:=false) x 0 rfl
 simp [vxl,hz]
end Go.VE
