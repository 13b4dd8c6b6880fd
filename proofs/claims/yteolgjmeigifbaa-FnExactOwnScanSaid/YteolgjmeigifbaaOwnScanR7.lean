/- Plain laws: a range is read. -/
import Derived.Test.YteolgjmeigifbaaOwnScanR6
namespace Go.VE
noncomputable section
set_option linter.unusedVariables false
set_option linter.unusedSimpArgs false
set_option maxRecDepth 100000

theorem lensTxn2 {a : tTxn.D} (ha : tTxn.wt a ≤ 1048576) : a.2.2.2.2.1.length ≤ 1048576 ∧ a.2.2.2.2.2.1.length ≤ 1048576 := by
  rw [wtTxn] at ha
  exact ⟨len_le (T := tRange) (by omega), len_le (T := tWrite) (by omega)⟩

end
end Go.VE
