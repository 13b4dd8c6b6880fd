/- Plain laws of the helpers of all laws: sizes, copies, comparisons; written by plib.py. -/
import Derived.Test.YtpmahbmokfaflaaReadBaseW
import Derived.Test.YtpmahbmokfaflaaP2
namespace Go.VE
set_option linter.unusedVariables false
set_option linter.unusedSimpArgs false
set_option maxRecDepth 100000
theorem wmk (x : tRange.D) : tRange.wt x = x.1.size + x.2.size := by
  simp only [tRange, Ty.wt] <;> omega
theorem v6h (x : tRange.D) (k) : vw1 x x k = k true := by
  rw [wm7]
  simp [web, vdp]
theorem vsp {u0 : List tRange.D} {u2 : Bool} : ∀ (l : List tRange.D) (i : Nat), u0.drop i = l → ∃ z, ∀ k, vm9 u0 u0 u2 l i k = k (.inr z)
  | [], i, h => ⟨_, fun k => rfl⟩
  | y :: l, i, h => by
    have hlt := vds h
    obtain ⟨z, hz⟩ := vsp (u2 := u2) l (i + 1) (vca h)
    have hy := (va8 h).1
    refine ⟨z, fun k => ?_⟩
    simp only [vm9]
    rw [if_pos ⟨by omega, by omega⟩]
    simp only [hy, v6h, Bool.not_true, cond_false, hz]
theorem v33 {x : List tRange.D} (hl : x.length ≤ 1048576) (k) : vwu x x k = k true := by
  rw [wx4 (by omega)]
  obtain ⟨z, hz⟩ := vsp (u0 := x) (u2 := false) x 0 rfl
  simp [wjz, hz]
theorem whe (x : tWrite.D) : tWrite.wt x = x.1.size + x.2.1.size := by
  simp only [tWrite, Ty.wt] <;> omega
theorem v6l (x : tWrite.D) (k) : vwb x x k = k true := by
  rw [wiq]
  simp [wev, vdp]
theorem vr6 {u0 : List tWrite.D} {u2 : Bool} : ∀ (l : List tWrite.D) (i : Nat), u0.drop i = l → ∃ z, ∀ k, vnf u0 u0 u2 l i k = k (.inr z)
  | [], i, h => ⟨_, fun k => rfl⟩
  | y :: l, i, h => by
    have hlt := vds h
    obtain ⟨z, hz⟩ := vr6 (u2 := u2) l (i + 1) (vca h)
    have hy := (va8 h).1
    refine ⟨z, fun k => ?_⟩
    simp only [vnf]
    rw [if_pos ⟨by omega, by omega⟩]
    simp only [hy, v6l, Bool.not_true, cond_false, hz]
theorem v5n {x : List tWrite.D} (hl : x.length ≤ 1048576) (k) : vv9 x x k = k true := by
  rw [wyu (by omega)]
  obtain ⟨z, hz⟩ := vr6 (u0 := x) (u2 := false) x 0 rfl
  simp [wj2, hz]
theorem vxv (x : tVersion.D) : tVersion.wt x = x.1.size + x.2.1.size := by
  simp only [tVersion, Ty.wt] <;> omega
theorem vzg (x : tVersion.D) (k) : vxi x x k = k true := by
  rw [wnk]
  simp [wb3, vdp]
theorem vmj {u0 : List tVersion.D} {u2 : Bool} : ∀ (l : List tVersion.D) (i : Nat), u0.drop i = l → ∃ z, ∀ k, vm6 u0 u0 u2 l i k = k (.inr z)
  | [], i, h => ⟨_, fun k => rfl⟩
  | y :: l, i, h => by
    have hlt := vds h
    obtain ⟨z, hz⟩ := vmj (u2 := u2) l (i + 1) (vca h)
    have hy := (va8 h).1
    refine ⟨z, fun k => ?_⟩
    simp only [vm6]
    rw [if_pos ⟨by omega, by omega⟩]
    simp only [hy, vzg, Bool.not_true, cond_false, hz]
theorem vwt {x : List tVersion.D} (hl : x.length ≤ 1048576) (k) : vwi x x k = k true := by
  rw [w3c (by omega)]
  obtain ⟨z, hz⟩ := vmj (u0 := x) (u2 := false) x 0 rfl
  simp [wjj, hz]
theorem v9m (x : tTxn.D) : tTxn.wt x = (Ty.slice tRange).wt x.2.2.2.2.1 + (Ty.slice tWrite).wt x.2.2.2.2.2.1 + x.2.2.2.2.2.2.2.size := by
  simp only [tTxn, Ty.wt] <;> omega
theorem wg6 (x : tTxn.D) (h4 : x.2.2.2.2.1.length ≤ 1048576) (h5 : x.2.2.2.2.2.1.length ≤ 1048576) (k) : vux x x k = k true := by
  rw [wi0]
  simp [wci, vdp, v33 h4, v5n h5]
theorem wu5 {x : tTxn.D} (h : tTxn.wt x ≤ 1048576) (k) : vux x x k = k true := by
  rw [v9m] at h
  exact wg6 x (vd3 (T := tRange) (by omega)) (vd3 (T := tWrite) (by omega)) k
theorem vxc {u0 : List tTxn.D} (hu : ∀ y ∈ u0, tTxn.wt y ≤ 1048576) {u2 : Bool} : ∀ (l : List tTxn.D) (i : Nat), u0.drop i = l → ∃ z, ∀ k, vms u0 u0 u2 l i k = k (.inr z)
  | [], i, h => ⟨_, fun k => rfl⟩
  | y :: l, i, h => by
    have hlt := vds h
    obtain ⟨z, hz⟩ := vxc hu (u2 := u2) l (i + 1) (vca h)
    have hy := (va8 h).1
    refine ⟨z, fun k => ?_⟩
    simp only [vms]
    rw [if_pos ⟨by omega, by omega⟩]
    simp only [hy, wu5 (hu y (vdd h)), Bool.not_true, cond_false, hz]
theorem vxo {x : List tTxn.D} (hl : x.length ≤ 1048576) (hu : ∀ y ∈ x, tTxn.wt y ≤ 1048576) (k) : vut x x k = k true := by
  rw [wz9 (by omega)]
  obtain ⟨z, hz⟩ := vxc (u0 := x) hu (u2 := false) x 0 rfl
  simp [wh6, hz]
theorem v55 (x : tBase.D) : tBase.wt x = (Ty.slice tVersion).wt x.1 + (Ty.slice tTxn).wt x.2.1 + (Ty.slice tTxn).wt x.2.2.1 := by
  simp only [tBase, Ty.wt] <;> omega
theorem v9y (x : tBase.D) (h0 : x.1.length ≤ 1048576) (h1 : x.2.1.length ≤ 1048576) (g1 : ∀ y ∈ x.2.1, tTxn.wt y ≤ 1048576) (h2 : x.2.2.1.length ≤ 1048576) (g2 : ∀ y ∈ x.2.2.1, tTxn.wt y ≤ 1048576) (k) : vl5 x x k = k true := by
  rw [whl]
  simp [wft, vdp, vwt h0, vxo h1 g1, vxo h2 g2]
theorem wp1 {x : tBase.D} (h : tBase.wt x ≤ 1048576) (k) : vl5 x x k = k true := by
  rw [v55] at h
  exact v9y x (vd3 (T := tVersion) (by omega)) (vd3 (T := tTxn) (by omega)) (fun y hy => vch hy (by omega)) (vd3 (T := tTxn) (by omega)) (fun y hy => vch hy (by omega)) k
end Go.VE
