/- Plain laws of the helpers of all laws: sizes, copies, comparisons; written by plib.py. -/
import Derived.Test.YteolgjmeigifbaaGreatReadRecordW
import Derived.Test.YteolgjmeigifbaaGreatP2
namespace Go.VE
set_option linter.unusedVariables false
set_option linter.unusedSimpArgs false
set_option maxRecDepth 100000
theorem v6n (x:tRange.D):tRange.wt x=x.1.size+x.2.size:=by
 simp only [tRange,Ty.wt]<;>omega
theorem waw (x:tRange.D) (k):v4y x x k=k true:=by
 rw [wqn]
 simp [wff,vc9]
theorem vtz {u0:List tRange.D}{u2:Bool}:∀(l:List tRange.D)(i:Nat),u0.drop i=l→∃z,∀k,vok u0 u0 u2 l i k=k (.inr z)
 |[],i,h=>⟨_,fun k=>rfl⟩
 |y::l,i,h=>by
  have hlt:=vde h
  obtain⟨z,hz⟩:=vtz (u2:=u2) l (i+1) (vb5 h)
  have hy:=(va1 h).1
  refine⟨z,fun k=>?_⟩
  simp only [vok]
  rw [if_pos ⟨by omega,by omega⟩]
  simp only [hy,waw,Bool.not_true,cond_false,hz]
theorem v78 {x:List tRange.D}(hl:x.length≤1048576) (k):v36 x x k=k true:=by
 rw [w3z (by omega)]
 obtain⟨z,hz⟩:=vtz (u0:=x) (u2:=false) x 0 rfl
 simp [wov,hz]
theorem wdx (x:tWrite.D):tWrite.wt x=x.1.size+x.2.1.size:=by
 simp only [tWrite,Ty.wt]<;>omega
theorem v80 (x:tWrite.D) (k):v4b x x k=k true:=by
 rw [wp0]
 simp [wi8,vc9]
theorem vto {u0:List tWrite.D}{u2:Bool}:∀(l:List tWrite.D)(i:Nat),u0.drop i=l→∃z,∀k,vpe u0 u0 u2 l i k=k (.inr z)
 |[],i,h=>⟨_,fun k=>rfl⟩
 |y::l,i,h=>by
  have hlt:=vde h
  obtain⟨z,hz⟩:=vto (u2:=u2) l (i+1) (vb5 h)
  have hy:=(va1 h).1
  refine⟨z,fun k=>?_⟩
  simp only [vpe]
  rw [if_pos ⟨by omega,by omega⟩]
  simp only [hy,v80,Bool.not_true,cond_false,hz]
theorem v60 {x:List tWrite.D}(hl:x.length≤1048576) (k):v24 x x k=k true:=by
 rw [w2l (by omega)]
 obtain⟨z,hz⟩:=vto (u0:=x) (u2:=false) x 0 rfl
 simp [wp8,hz]
theorem vsz (x:tVersion.D):tVersion.wt x=x.1.size+x.2.1.size:=by
 simp only [tVersion,Ty.wt]<;>omega
theorem v1b (x:tVersion.D) (k):v4z x x k=k true:=by
 rw [wml]
 simp [wgw,vc9]
theorem voo {u0:List tVersion.D}{u2:Bool}:∀(l:List tVersion.D)(i:Nat),u0.drop i=l→∃z,∀k,voa u0 u0 u2 l i k=k (.inr z)
 |[],i,h=>⟨_,fun k=>rfl⟩
 |y::l,i,h=>by
  have hlt:=vde h
  obtain⟨z,hz⟩:=voo (u2:=u2) l (i+1) (vb5 h)
  have hy:=(va1 h).1
  refine⟨z,fun k=>?_⟩
  simp only [voa]
  rw [if_pos ⟨by omega,by omega⟩]
  simp only [hy,v1b,Bool.not_true,cond_false,hz]
theorem vym {x:List tVersion.D}(hl:x.length≤1048576) (k):v3n x x k=k true:=by
 rw [w29 (by omega)]
 obtain⟨z,hz⟩:=voo (u0:=x) (u2:=false) x 0 rfl
 simp [wl5,hz]
theorem vu6 (x:tTxn.D):tTxn.wt x=(Ty.slice tRange).wt x.2.2.2.2.1+(Ty.slice tWrite).wt x.2.2.2.2.2.1+x.2.2.2.2.2.2.2.size:=by
 simp only [tTxn,Ty.wt]<;>omega
theorem wjw (x:tTxn.D)(h4:x.2.2.2.2.1.length≤1048576)(h5:x.2.2.2.2.2.1.length≤1048576) (k):vv6 x x k=k true:=by
 rw [wnb]
 simp [wh2,vc9,v78 h4,v60 h5]
theorem wn7 {x:tTxn.D}(h:tTxn.wt x≤1048576) (k):vv6 x x k=k true:=by
 rw [vu6]at h
 exact wjw x (vct (T:=tRange) (by omega)) (vct (T:=tWrite) (by omega)) k
theorem vx6 {u0:List tTxn.D}(hu:∀y∈u0,tTxn.wt y≤1048576){u2:Bool}:∀(l:List tTxn.D)(i:Nat),u0.drop i=l→∃z,∀k,vph u0 u0 u2 l i k=k (.inr z)
 |[],i,h=>⟨_,fun k=>rfl⟩
 |y::l,i,h=>by
  have hlt:=vde h
  obtain⟨z,hz⟩:=vx6 hu (u2:=u2) l (i+1) (vb5 h)
  have hy:=(va1 h).1
  refine⟨z,fun k=>?_⟩
  simp only [vph]
  rw [if_pos ⟨by omega,by omega⟩]
  simp only [hy,wn7 (hu y (vc7 h)),Bool.not_true,cond_false,hz]
theorem vyq {x:List tTxn.D}(hl:x.length≤1048576)(hu:∀y∈x,tTxn.wt y≤1048576) (k):v0e x x k=k true:=by
 rw [w3e (by omega)]
 obtain⟨z,hz⟩:=vx6 (u0:=x) hu (u2:=false) x 0 rfl
 simp [wri,hz]
theorem vvh (x:tBase.D):tBase.wt x=(Ty.slice tVersion).wt x.1+(Ty.slice tTxn).wt x.2.1+(Ty.slice tTxn).wt x.2.2.1:=by
 simp only [tBase,Ty.wt]<;>omega
theorem we6 (x:tBase.D)(h0:x.1.length≤1048576)(h1:x.2.1.length≤1048576)(g1:∀y∈x.2.1,tTxn.wt y≤1048576)(h2:x.2.2.1.length≤1048576)(g2:∀y∈x.2.2.1,tTxn.wt y≤1048576) (k):v4s x x k=k true:=by
 rw [wqk]
 simp [wf0,vc9,vym h0,vyq h1 g1,vyq h2 g2]
theorem wvu {x:tBase.D}(h:tBase.wt x≤1048576) (k):v4s x x k=k true:=by
 rw [vvh]at h
 exact we6 x (vct (T:=tVersion) (by omega)) (vct (T:=tTxn) (by omega)) (fun y hy=>vcu hy (by omega)) (vct (T:=tTxn) (by omega)) (fun y hy=>vcu hy (by omega)) k
theorem vht (x:tRecord.D):tRecord.wt x=tTxn.wt x.2.1+x.2.2.1.size+tBase.wt x.2.2.2.2:=by
 simp only [tRecord,Ty.wt]<;>omega
theorem v8g (x:tRecord.D)(h1:tTxn.wt x.2.1≤1048576)(h4:tBase.wt x.2.2.2.2≤1048576) (k):vp3 x x k=k true:=by
 rw [wqo]
 simp [wic,vc9,wn7 h1,wvu h4]
theorem wja {x:tRecord.D}(h:tRecord.wt x≤1048576) (k):vp3 x x k=k true:=by
 rw [vht]at h
 exact v8g x (by omega) (by omega) k
end Go.VE
