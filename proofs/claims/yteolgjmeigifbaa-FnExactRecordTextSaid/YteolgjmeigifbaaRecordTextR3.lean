/- Plain laws: one of a list that passes a test; what is seen; the oldest. -/
import Derived.Test.YteolgjmeigifbaaRecordTextR1
namespace Go.VE
noncomputable section
set_option linter.unusedVariables false
set_option linter.unusedSimpArgs false
set_option maxRecDepth 100000

theorem impl_isReady_is (x : tTxn.D) (k) : impl_isReady_k x k = k (x.2.1 == 2) := by rw [impl_isReady_e]; rfl
theorem impl_isDone_is (x : tTxn.D) (k) : impl_isDone_k x k = k (x.2.1 == 3) := by rw [impl_isDone_e]; rfl

end
end Go.VE
