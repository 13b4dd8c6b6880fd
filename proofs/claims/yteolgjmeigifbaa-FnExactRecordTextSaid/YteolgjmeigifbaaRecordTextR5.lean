/- Plain laws of the draws: each gives, whatever the bytes. -/
import Derived.Test.YteolgjmeigifbaaRecordTextR4
namespace Go.VE
noncomputable section
set_option linter.unusedVariables false
set_option linter.unusedSimpArgs false
set_option maxRecDepth 100000

end
end Go.VE
