/- Plain laws: a transaction's marks. -/
import Derived.Test.YteolgjmeigifbaaBeginR7
namespace Go.VE
noncomputable section
set_option linter.unusedVariables false
set_option linter.unusedSimpArgs false
set_option maxRecDepth 100000
theorem vtz : ∀ (c : Int) (l : List tRange.D), (vs8 c l).length = l.length
  | _, [] => rfl
  | c, y :: l => by simp [vs8, vtz (c + 2) l]
theorem vt5 : ∀ (c : Int) (l : List tWrite.D), (vs6 c l).length = l.length
  | _, [] => rfl
  | c, y :: l => by simp [vs6, vt5 (c + 3) l]
end
end Go.VE
