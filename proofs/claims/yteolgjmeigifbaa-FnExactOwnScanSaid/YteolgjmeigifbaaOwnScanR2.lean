/- The plain laws. -/
import Derived.Test.YteolgjmeigifbaaOwnScanR23
namespace Go.VE
set_option linter.unusedVariables false
set_option linter.unusedSimpArgs false
set_option maxRecDepth 100000


theorem law_FnExactOwnScan (x : tTxn.D) (y : (Ty.slice tVersion).D) (z : tRange.D) (hx : tTxn.wf x) (hy : (Ty.slice tVersion).wf y) (hz : tRange.wf z) (k : Bool → Option Res) : laws_FnExactOwnScan_k x y z k = k true := by
  rw [laws_FnExactOwnScan_r]
  unfold laws_FnExactOwnScan_t
  obtain ⟨r0, q0, p0⟩ := szTxn_is hx (a := 1048576) (by omega) (by omega)
  rw [q0]
  rcases p0 with p0 | ⟨p0, e0⟩
  · simp [p0]
  have c0 : ¬ r0 < 0 := by omega
  simp only [c0, decide_false, cond_false]
  obtain ⟨r1, q1, p1⟩ := szVersionS_is hy (a := r0) p0 (by omega)
  rw [q1]
  rcases p1 with p1 | ⟨p1, e1⟩
  · simp [p1]
  have c1 : ¬ r1 < 0 := by omega
  simp only [c1, decide_false, cond_false]
  obtain ⟨r2, q2, p2⟩ := szRange_is hz (a := r1) p1 (by omega)
  rw [q2]
  rcases p2 with p2 | ⟨p2, e2⟩
  · simp [p2]
  have c2 : ¬ r2 < 0 := by omega
  simp only [c2, decide_false, cond_false]
  have wx : tTxn.wt x ≤ 1048576 := by omega
  have wy : (Ty.slice tVersion).wt y ≤ 1048576 := by omega
  have ly := len_le wy
  have hl2 := lensTxn2 wx
  have hsum : y.length + x.2.2.2.2.2.1.length ≤ 1048576 := by
    have a := wtTxn x
    have b := Ty.wt_slice tVersion y
    have c := Ty.wt_slice tWrite x.2.2.2.2.2.1
    omega
  have hs := ownScanB_length x y z
  have ls : (ownScanB x y z).length ≤ 1048576 := by omega
  have hrw : x.2.2.2.2.1.length + x.2.2.2.2.2.1.length ≤ 1048576 := by
    have a := wtTxn x
    have b := Ty.wt_slice tRange x.2.2.2.2.1
    have c := Ty.wt_slice tWrite x.2.2.2.2.2.1
    omega
  obtain ⟨S', hm⟩ := laws_markVersionS_vo_ex2 ly (c := 1 + 2 * (x.2.2.2.2.1.length : Int) + 3 * (x.2.2.2.2.2.1.length : Int)) (by omega) (by omega)
  have hM1 := fun (a0 a1 a2 a3 a4 a5) k => laws_markTxn_va_is (a0 := a0) (a1 := a1) (a2 := a2) (a3 := a3) (a4 := a4) (a5 := a5) (show x.2.2.2.2.1.length ≤ 1048577 by omega) hl2.2 hl2.1 k
  have n1 : decide (1 + 2 * (x.2.2.2.2.1.length : Int) + 3 * (x.2.2.2.2.2.1.length : Int) + 4 * (y.length : Int) < 0) = false := decide_eq_false (by omega)
  have n2 : decide (1 + 2 * ((ownScanB x y z).length : Int) < 0) = false := decide_eq_false (by omega)
  simp only [toTxn_w wx, toVersionS_is ly, toRange_is, spec_OwnScan_is wx hsum, impl_OwnScan_is wx hsum, eqPairS_self ls, eqTxn_w wx, eqVersionS_self ly, hM1, hm, n1, n2, laws_FnExactOwnScan_wj5000026, laws_markPairS_vo_is ls (show (0 : Int) ≤ 1 by decide) (show (1 : Int) ≤ 5000000 by decide), heldPairS_is ls, pair_eta, beq_self_eq_true, bne_self_eq_false, Bool.not_true, Bool.not_false, cond_true, cond_false]

end Go.VE
