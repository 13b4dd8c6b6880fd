/- The plain laws. -/
import Derived.Test.YtbedbcnmfoildaaTxnTextR4
namespace Go.VE
set_option linter.unusedVariables false
set_option linter.unusedSimpArgs false
set_option maxRecDepth 100000


theorem law_FnExactTxnText (x : tTxn.D) (hx : tTxn.wf x) (k : Bool → Option Res) : laws_FnExactTxnText_k x k = k true := by
  rw [laws_FnExactTxnText_r]
  unfold laws_FnExactTxnText_t
  obtain ⟨r0, q0, p0⟩ := szTxn_is hx (a := 1048576) (by omega) (by omega)
  rw [q0]
  rcases p0 with p0 | ⟨p0, e0⟩
  · simp [p0]
  have c0 : ¬ r0 < 0 := by omega
  simp only [c0, decide_false, cond_false]
  have wx : tTxn.wt x ≤ 1048576 := by omega
  simp only [toTxn_w wx, spec_TxnText_is wx, impl_TxnText_is wx, eqTxn_w wx, strEq_self, laws_FnExactTxnText_wj5000010, pair_eta, beq_self_eq_true, bne_self_eq_false, Bool.not_true, Bool.not_false, cond_true, cond_false]

end Go.VE
