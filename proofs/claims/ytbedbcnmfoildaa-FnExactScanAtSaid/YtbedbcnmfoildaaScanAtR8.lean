/- Plain laws: a transaction's marks. -/
import Derived.Test.YtbedbcnmfoildaaScanAtR6
namespace Go.VE
noncomputable section
set_option linter.unusedVariables false
set_option linter.unusedSimpArgs false
set_option maxRecDepth 100000

theorem markR_length : ∀ (c : Int) (l : List tRange.D), (markR c l).length = l.length
  | _, [] => rfl
  | c, y :: l => by simp [markR, markR_length (c + 2) l]
end
end Go.VE
