/- The plain laws. -/
import Derived.Test.YtbedbcnmfoildaaScanAtR20
namespace Go.VE
set_option linter.unusedVariables false
set_option linter.unusedSimpArgs false
set_option maxRecDepth 100000


theorem law_FnExactScanAt (x : (Ty.slice tVersion).D) (y : tRange.D) (z : Int) (hx : (Ty.slice tVersion).wf x) (hy : tRange.wf y) (hz : (Ty.int .i64).wf z) (k : Bool → Option Res) : laws_FnExactScanAt_k x y z k = k true := by
  rw [laws_FnExactScanAt_r]
  unfold laws_FnExactScanAt_t
  obtain ⟨r0, q0, p0⟩ := szVersionS_is hx (a := 1048576) (by omega) (by omega)
  rw [q0]
  rcases p0 with p0 | ⟨p0, e0⟩
  · simp [p0]
  have c0 : ¬ r0 < 0 := by omega
  simp only [c0, decide_false, cond_false]
  obtain ⟨r1, q1, p1⟩ := szRange_is hy (a := r0) p0 (by omega)
  rw [q1]
  rcases p1 with p1 | ⟨p1, e1⟩
  · simp [p1]
  have c1 : ¬ r1 < 0 := by omega
  simp only [c1, decide_false, cond_false]
  have wx : (Ty.slice tVersion).wt x ≤ 1048576 := by omega
  have lx := len_le wx
  have hs := scanB_length x y z
  have ls : (scanB x y z).length ≤ 1048576 := by omega
  obtain ⟨S', hm⟩ := laws_markVersionS_vo_ex lx
  have n1 : decide (1 + 4 * (x.length : Int) < 0) = false := decide_eq_false (by omega)
  have n2 : decide (1 + 2 * ((scanB x y z).length : Int) < 0) = false := decide_eq_false (by omega)
  simp only [toVersionS_is lx, toRange_is, spec_ScanAt_is lx, impl_ScanAt_is lx, eqPairS_self ls, eqVersionS_self lx, hm, n1, n2, laws_FnExactScanAt_wj5000019, laws_markPairS_vo_is ls (show (0 : Int) ≤ 1 by decide) (show (1 : Int) ≤ 5000000 by decide), heldPairS_is ls, pair_eta, beq_self_eq_true, bne_self_eq_false, Bool.not_true, Bool.not_false, cond_true, cond_false]

end Go.VE
