/- Plain laws: versions, bases. -/
import Derived.Test.YtbedbcnmfoildaaFnDangersR8
import Derived.Test.YtbedbcnmfoildaaP3
namespace Go.VE
noncomputable section
set_option linter.unusedVariables false
set_option linter.unusedSimpArgs false
set_option maxRecDepth 100000

end

end Go.VE
