/- Plain laws: a base's text. -/
import Derived.Test.YtbedbcnmfoildaaFnDangersR11
namespace Go.VE
noncomputable section
set_option linter.unusedVariables false
set_option linter.unusedSimpArgs false
set_option maxRecDepth 100000

end
end Go.VE
