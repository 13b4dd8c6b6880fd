/- The plain laws. -/
import Derived.Test.YtpmahbmokfaflaaBaseTextR12
namespace Go.VE
set_option linter.unusedVariables false
set_option linter.unusedSimpArgs false
set_option maxRecDepth 100000


theorem law_FnExactBaseText (x : tBase.D) (hx : tBase.wf x) (k : Bool → Option Res) : laws_FnExactBaseText_k x k = k true := by
  rw [laws_FnExactBaseText_r]
  unfold laws_FnExactBaseText_t
  obtain ⟨r0, q0, p0⟩ := szBase_is hx (a := 1048576) (by omega) (by omega)
  rw [q0]
  rcases p0 with p0 | ⟨p0, e0⟩
  · simp [p0]
  have c0 : ¬ r0 < 0 := by omega
  simp only [c0, decide_false, cond_false]
  have wx : tBase.wt x ≤ 1048576 := by omega
  simp only [toBase_w wx, spec_BaseText_is wx, impl_BaseText_is wx, eqBase_w wx, strEq_self, laws_FnExactBaseText_wj5000010, pair_eta, beq_self_eq_true, bne_self_eq_false, Bool.not_true, Bool.not_false, cond_true, cond_false]

end Go.VE
