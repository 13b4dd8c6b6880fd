/- The plain laws. -/
import Derived.Test.YtbedbcnmfoildaaReadyAtR4
namespace Go.VE
set_option linter.unusedVariables false
set_option linter.unusedSimpArgs false
set_option maxRecDepth 100000


theorem law_FnExactReadyAt (x : tBase.D) (z : ByteArray) (hx : tBase.wf x) (hz : Ty.str.wf z) (k : Bool → Option Res) : laws_FnExactReadyAt_k x z k = k true := by
  rw [laws_FnExactReadyAt_e]
  unfold laws_FnExactReadyAt_d
  by_cases bz : (z.size : Int) > 1048576
  · simp only [bz, decide_true, cond_true]
  simp only [bz, decide_false, cond_false]
  obtain ⟨r0, q0, p0⟩ := szBase_is hx (a := 1048576) (by omega) (by omega)
  rw [q0]
  rcases p0 with p0 | ⟨p0, e0⟩
  · simp [p0]
  have c0 : ¬ r0 < 0 := by omega
  simp only [c0, decide_false, cond_false]
  have wx : tBase.wt x ≤ 1048576 := by omega
  have wz : z.size ≤ 1048576 := by omega
  have lr : x.2.2.1.length ≤ 1048576 := len_le (T := tTxn) (by have := wtBase x; omega)
  simp only [toBase_w wx, spec_ReadyAt_is _ _ lr, impl_ReadyAt_is _ _ lr, eqBase_w wx, pair_eta, beq_self_eq_true, bne_self_eq_false, Bool.not_true, Bool.not_false, cond_true, cond_false]

end Go.VE
