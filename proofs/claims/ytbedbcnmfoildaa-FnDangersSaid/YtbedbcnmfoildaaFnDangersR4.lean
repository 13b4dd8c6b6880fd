/- Plain laws: where a name or an Id stands; a transaction's text. -/
import Derived.Test.YtbedbcnmfoildaaFnDangersR3
namespace Go.VE
noncomputable section
set_option linter.unusedVariables false
set_option linter.unusedSimpArgs false
set_option maxRecDepth 100000

end
end Go.VE
