/- The plain laws. -/
import Derived.Test.YteolgjmeigifbaaLikeBaseR22
namespace Go.VE
set_option linter.unusedVariables false
set_option linter.unusedSimpArgs false
set_option maxRecDepth 100000


theorem law_FnExactLikeBase (x : tBase.D) (y : tBase.D) (hx : tBase.wf x) (hy : tBase.wf y) (k : Bool → Option Res) : laws_FnExactLikeBase_k x y k = k true := by
  rw [laws_FnExactLikeBase_e]
  unfold laws_FnExactLikeBase_d
  obtain ⟨r0, q0, p0⟩ := szBase_is hx (a := 1048576) (by omega) (by omega)
  rw [q0]
  rcases p0 with p0 | ⟨p0, e0⟩
  · simp [p0]
  have c0 : ¬ r0 < 0 := by omega
  simp only [c0, decide_false, cond_false]
  obtain ⟨r1, q1, p1⟩ := szBase_is hy (a := r0) p0 (by omega)
  rw [q1]
  rcases p1 with p1 | ⟨p1, e1⟩
  · simp [p1]
  have c1 : ¬ r1 < 0 := by omega
  simp only [c1, decide_false, cond_false]
  have wx : tBase.wt x ≤ 1048576 := by omega
  have wy : tBase.wt y ≤ 1048576 := by omega
  simp only [toBase_w wx, toBase_w wy, spec_LikeBase_is wx wy, impl_LikeBase_is wx wy, eqBase_w wx, eqBase_w wy, pair_eta, beq_self_eq_true, Bool.not_true, cond_false]

end Go.VE
