/- Plain laws: an engine and a record are right. -/
import Derived.Test.YtbedbcnmfoildaaFnDangersR10
namespace Go.VE
noncomputable section
set_option linter.unusedVariables false
set_option linter.unusedSimpArgs false
set_option maxRecDepth 100000

end
end Go.VE
