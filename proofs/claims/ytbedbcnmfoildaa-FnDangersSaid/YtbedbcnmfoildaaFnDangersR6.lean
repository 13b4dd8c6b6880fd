/- Plain laws of the marks: what is marked in place is held. -/
import Derived.Test.YtbedbcnmfoildaaFnDangersR5
namespace Go.VE
noncomputable section
set_option linter.unusedVariables false
set_option linter.unusedSimpArgs false
set_option maxRecDepth 100000

end
end Go.VE
