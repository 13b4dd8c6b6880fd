/- Plain laws of the helpers of all laws: sizes, copies, comparisons; written by plib.py. -/
import Derived.Test.YtiajamilfgkecaaFnTrimsW
import Derived.Test.YtiajamilfgkecaaP2
namespace Go.VE
set_option linter.unusedVariables false
set_option linter.unusedSimpArgs false
set_option maxRecDepth 100000
theorem vuk (x:tVersion.D):tVersion.wt x=x.1.size+x.2.1.size:=by
 simp only [tVersion,Ty.wt]<;>omega
end Go.VE
