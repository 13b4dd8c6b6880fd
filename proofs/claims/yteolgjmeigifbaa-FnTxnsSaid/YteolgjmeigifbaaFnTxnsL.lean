/- Plain laws of the helpers of all laws: sizes, copies, comparisons; written by plib.py. -/
import Derived.Test.YteolgjmeigifbaaFnTxnsW
import Derived.Test.YteolgjmeigifbaaP2
namespace Go.VE
set_option linter.unusedVariables false
set_option linter.unusedSimpArgs false
set_option maxRecDepth 100000
theorem vpa (x:tRange.D):tRange.wt x=x.1.size+x.2.size:=by
 simp only [tRange,Ty.wt]<;>omega
theorem vo7 (x:tWrite.D):tWrite.wt x=x.1.size+x.2.1.size:=by
 simp only [tWrite,Ty.wt]<;>omega
theorem vqo (x:tTxn.D):tTxn.wt x=(Ty.slice tRange).wt x.2.2.2.2.1+(Ty.slice tWrite).wt x.2.2.2.2.2.1+x.2.2.2.2.2.2.2.size:=by
 simp only [tTxn,Ty.wt]<;>omega
end Go.VE
