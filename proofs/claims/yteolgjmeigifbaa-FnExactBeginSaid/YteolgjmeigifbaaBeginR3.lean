/- Plain laws: one of a list that passes a test; what is seen; the oldest. -/
import Derived.Test.YteolgjmeigifbaaBeginR1
namespace Go.VE
noncomputable section
set_option linter.unusedVariables false
set_option linter.unusedSimpArgs false
set_option maxRecDepth 100000
theorem wuh (x : tTxn.D) (k) : vwn x k = k (x.2.1 == 2) := by rw [whb]; rfl
theorem wui (x : tTxn.D) (k) : vvu x k = k (x.2.1 == 3) := by rw [wkx]; rfl
end
end Go.VE
