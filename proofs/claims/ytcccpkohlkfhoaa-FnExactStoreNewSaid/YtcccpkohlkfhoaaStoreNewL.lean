/- Plain laws of the helpers of all laws: sizes, copies, comparisons; written by plib.py. -/
import Derived.Test.YtcccpkohlkfhoaaStoreNewW
import Derived.Test.YtcccpkohlkfhoaaP2
namespace Go.VE
set_option linter.unusedVariables false
set_option linter.unusedSimpArgs false
set_option maxRecDepth 100000
theorem vqw (x:tRange.D) (k):vn8 x x k=k true:=by
 rw [vzu]
 simp [vvh,vb9]
theorem vhx {u0:List tRange.D}{u2:Bool}:∀(l:List tRange.D)(i:Nat),u0.drop i=l→∃z,∀k,vfj u0 u0 u2 l i k=k (.inr z)
 |[],i,h=>⟨_,fun k=>rfl⟩
 |y::l,i,h=>by
  have hlt:=vi7 h
  obtain⟨z,hz⟩:=vhx (u2:=u2) l (i+1) (vfo h)
  have hy:=(vb5 h).1
  refine⟨z,fun k=>?_⟩
  simp only [vfj]
  rw [if_pos ⟨by omega,by omega⟩]
  simp only [hy,vqw,Bool.not_true,cond_false,hz]
theorem vph {x:List tRange.D}(hl:x.length≤1048576) (k):vn5 x x k=k true:=by
 rw [v6t (by omega)]
 obtain⟨z,hz⟩:=vhx (u0:=x) (u2:=false) x 0 rfl
 simp [vzw,hz]
theorem vrs (x:tWrite.D) (k):vn6 x x k=k true:=by
 rw [vxy]
 simp [vvd,vb9]
theorem vin {u0:List tWrite.D}{u2:Bool}:∀(l:List tWrite.D)(i:Nat),u0.drop i=l→∃z,∀k,vfl u0 u0 u2 l i k=k (.inr z)
 |[],i,h=>⟨_,fun k=>rfl⟩
 |y::l,i,h=>by
  have hlt:=vi7 h
  obtain⟨z,hz⟩:=vin (u2:=u2) l (i+1) (vfo h)
  have hy:=(vb5 h).1
  refine⟨z,fun k=>?_⟩
  simp only [vfl]
  rw [if_pos ⟨by omega,by omega⟩]
  simp only [hy,vrs,Bool.not_true,cond_false,hz]
theorem vpf {x:List tWrite.D}(hl:x.length≤1048576) (k):vng x x k=k true:=by
 rw [v5t (by omega)]
 obtain⟨z,hz⟩:=vin (u0:=x) (u2:=false) x 0 rfl
 simp [vz8,hz]
theorem vmf (x:tVersion.D) (k):vm8 x x k=k true:=by
 rw [vy1]
 simp [vt0,vb9]
theorem vge {u0:List tVersion.D}{u2:Bool}:∀(l:List tVersion.D)(i:Nat),u0.drop i=l→∃z,∀k,vfs u0 u0 u2 l i k=k (.inr z)
 |[],i,h=>⟨_,fun k=>rfl⟩
 |y::l,i,h=>by
  have hlt:=vi7 h
  obtain⟨z,hz⟩:=vge (u2:=u2) l (i+1) (vfo h)
  have hy:=(vb5 h).1
  refine⟨z,fun k=>?_⟩
  simp only [vfs]
  rw [if_pos ⟨by omega,by omega⟩]
  simp only [hy,vmf,Bool.not_true,cond_false,hz]
theorem vkh {x:List tVersion.D}(hl:x.length≤1048576) (k):vn3 x x k=k true:=by
 rw [v5j (by omega)]
 obtain⟨z,hz⟩:=vge (u0:=x) (u2:=false) x 0 rfl
 simp [vxv,hz]
theorem v7g (x:tTxn.D):tTxn.wt x=(Ty.slice tRange).wt x.2.2.2.2.1+(Ty.slice tWrite).wt x.2.2.2.2.2.1+x.2.2.2.2.2.2.2.size:=by
 simp only [tTxn,Ty.wt]<;>omega
theorem vv9 (x:tTxn.D)(h4:x.2.2.2.2.1.length≤1048576)(h5:x.2.2.2.2.2.1.length≤1048576) (k):vll x x k=k true:=by
 rw [vzx]
 simp [vvr,vb9,vph h4,vpf h5]
theorem v4s {x:tTxn.D}(h:tTxn.wt x≤1048576) (k):vll x x k=k true:=by
 rw [v7g]at h
 exact vv9 x (vn4 (T:=tRange) (by omega)) (vn4 (T:=tWrite) (by omega)) k
theorem vl3 {u0:List tTxn.D}(hu:∀y∈u0,tTxn.wt y≤1048576){u2:Bool}:∀(l:List tTxn.D)(i:Nat),u0.drop i=l→∃z,∀k,vfz u0 u0 u2 l i k=k (.inr z)
 |[],i,h=>⟨_,fun k=>rfl⟩
 |y::l,i,h=>by
  have hlt:=vi7 h
  obtain⟨z,hz⟩:=vl3 hu (u2:=u2) l (i+1) (vfo h)
  have hy:=(vb5 h).1
  refine⟨z,fun k=>?_⟩
  simp only [vfz]
  rw [if_pos ⟨by omega,by omega⟩]
  simp only [hy,v4s (hu y (vsr h)),Bool.not_true,cond_false,hz]
theorem vg9 {x:List tTxn.D}(hl:x.length≤1048576)(hu:∀y∈x,tTxn.wt y≤1048576) (k):vja x x k=k true:=by
 rw [v6o (by omega)]
 obtain⟨z,hz⟩:=vl3 (u0:=x) hu (u2:=false) x 0 rfl
 simp [vyb,hz]
theorem v6m (x:tBase.D):tBase.wt x=(Ty.slice tVersion).wt x.1+(Ty.slice tTxn).wt x.2.1+(Ty.slice tTxn).wt x.2.2.1:=by
 simp only [tBase,Ty.wt]<;>omega
theorem vtn (x:tBase.D)(h0:x.1.length≤1048576)(h1:x.2.1.length≤1048576)(g1:∀y∈x.2.1,tTxn.wt y≤1048576)(h2:x.2.2.1.length≤1048576)(g2:∀y∈x.2.2.1,tTxn.wt y≤1048576) (k):vnz x x k=k true:=by
 rw [v0i]
 simp [vus,vb9,vkh h0,vg9 h1 g1,vg9 h2 g2]
theorem v2l {x:tBase.D}(h:tBase.wt x≤1048576) (k):vnz x x k=k true:=by
 rw [v6m]at h
 exact vtn x (vn4 (T:=tVersion) (by omega)) (vn4 (T:=tTxn) (by omega)) (fun y hy=>vkm hy (by omega)) (vn4 (T:=tTxn) (by omega)) (fun y hy=>vkm hy (by omega)) k
theorem v1b (x:tEngine.D):tEngine.wt x=tBase.wt x.1+(Ty.slice tTxn).wt x.2:=by
 simp only [tEngine,Ty.wt]<;>omega
theorem vpq (x:tEngine.D)(h0:tBase.wt x.1≤1048576)(h1:x.2.length≤1048576)(g1:∀y∈x.2,tTxn.wt y≤1048576) (k):vnd x x k=k true:=by
 rw [vzi]
 simp [vvv,vb9,v2l h0,vg9 h1 g1]
theorem vxj {x:tEngine.D}(h:tEngine.wt x≤1048576) (k):vnd x x k=k true:=by
 rw [v1b]at h
 exact vpq x (by omega) (vn4 (T:=tTxn) (by omega)) (fun y hy=>vkm hy (by omega)) k
end Go.VE
