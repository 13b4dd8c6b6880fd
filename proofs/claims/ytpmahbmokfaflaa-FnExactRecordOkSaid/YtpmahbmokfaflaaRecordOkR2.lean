/- The plain laws. -/
import Derived.Test.YtpmahbmokfaflaaRecordOkR11
namespace Go.VE
set_option linter.unusedVariables false
set_option linter.unusedSimpArgs false
set_option maxRecDepth 100000


theorem law_FnExactRecordOk (x : tRecord.D) (hx : tRecord.wf x) (k : Bool → Option Res) : laws_FnExactRecordOk_k x k = k true := by
  rw [laws_FnExactRecordOk_e]
  unfold laws_FnExactRecordOk_d
  obtain ⟨r0, q0, p0⟩ := szRecord_is hx (a := 1048576) (by omega) (by omega)
  rw [q0]
  rcases p0 with p0 | ⟨p0, e0⟩
  · simp [p0]
  have c0 : ¬ r0 < 0 := by omega
  simp only [c0, decide_false, cond_false]
  have wx : tRecord.wt x ≤ 1048576 := by omega
  simp only [toRecord_w wx, spec_RecordOk_is wx, impl_RecordOk_is wx, eqRecord_w wx, pair_eta, beq_self_eq_true, bne_self_eq_false, Bool.not_true, Bool.not_false, cond_true, cond_false]

end Go.VE
