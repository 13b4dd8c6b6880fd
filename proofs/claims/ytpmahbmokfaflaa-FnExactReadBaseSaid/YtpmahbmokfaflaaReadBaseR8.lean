/- Plain laws: a transaction's marks. -/
import Derived.Test.YtpmahbmokfaflaaReadBaseR6
namespace Go.VE
noncomputable section
set_option linter.unusedVariables false
set_option linter.unusedSimpArgs false
set_option maxRecDepth 100000
theorem vuw : ∀ (c : Int) (l : List tRange.D), (vul c l).length = l.length
  | _, [] => rfl
  | c, y :: l => by simp [vul, vuw (c + 2) l]
theorem vvb : ∀ (c : Int) (l : List tWrite.D), (vuk c l).length = l.length
  | _, [] => rfl
  | c, y :: l => by simp [vuk, vvb (c + 3) l]
end
end Go.VE
