/- Plain laws: versions, bases. -/
import Derived.Test.YteolgjmeigifbaaLikeBaseR4
import Derived.Test.YteolgjmeigifbaaP3
namespace Go.VE
noncomputable section
set_option linter.unusedVariables false
set_option linter.unusedSimpArgs false
set_option maxRecDepth 100000

theorem partsBase {b : tBase.D} (hb : tBase.wt b ≤ 1048576) : (Ty.slice tVersion).wt b.1 ≤ 1048576 ∧ (Ty.slice tTxn).wt b.2.1 ≤ 1048576 ∧ (Ty.slice tTxn).wt b.2.2.1 ≤ 1048576 := by
  rw [wtBase] at hb; omega

end

end Go.VE
