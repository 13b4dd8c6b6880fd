/- Plain laws: numbers and texts that are read. -/
import Derived.Test.YtbedbcnmfoildaaFnDangersR9
namespace Go.VE
noncomputable section
set_option linter.unusedVariables false
set_option linter.unusedSimpArgs false
set_option maxRecDepth 100000

/-! ### a number's bytes -/

end

end Go.VE
