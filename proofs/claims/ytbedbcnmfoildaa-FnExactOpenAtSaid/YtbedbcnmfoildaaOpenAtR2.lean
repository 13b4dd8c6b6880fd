/- The plain laws. -/
import Derived.Test.YtbedbcnmfoildaaOpenAtR4
namespace Go.VE
set_option linter.unusedVariables false
set_option linter.unusedSimpArgs false
set_option maxRecDepth 100000


theorem law_FnExactOpenAt (x : tEngine.D) (y : Int) (hx : tEngine.wf x) (hy : (Ty.int .i64).wf y) (k : Bool → Option Res) : laws_FnExactOpenAt_k x y k = k true := by
  rw [laws_FnExactOpenAt_e]
  unfold laws_FnExactOpenAt_d
  obtain ⟨r0, q0, p0⟩ := szEngine_is hx (a := 1048576) (by omega) (by omega)
  rw [q0]
  rcases p0 with p0 | ⟨p0, e0⟩
  · simp [p0]
  have c0 : ¬ r0 < 0 := by omega
  simp only [c0, decide_false, cond_false]
  have wx : tEngine.wt x ≤ 1048576 := by omega
  have lr : x.2.length ≤ 1048576 := len_le (T := tTxn) (by have := wtEngine x; omega)
  simp only [toEngine_w wx, spec_OpenAt_is _ _ lr, impl_OpenAt_is _ _ lr, eqEngine_w wx, pair_eta, beq_self_eq_true, bne_self_eq_false, Bool.not_true, Bool.not_false, cond_true, cond_false]

end Go.VE
