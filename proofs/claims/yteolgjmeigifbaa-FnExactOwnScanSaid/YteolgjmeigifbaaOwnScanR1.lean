/- Plain laws: keys, ranges, writes, transactions, who is ahead of whom. -/
import Derived.Test.YteolgjmeigifbaaOwnScanL
namespace Go.VE
noncomputable section
set_option linter.unusedVariables false
set_option linter.unusedSimpArgs false
set_option maxRecDepth 100000

def inRangeB (r : tRange.D) (key : ByteArray) : Bool := !(strLess key r.1) && (strLess key r.2 || strEq key r.2)
theorem impl_InRange_is (r : tRange.D) (key) (k) : impl_InRange_k r key k = k (inRangeB r key) := by
  rw [impl_InRange_e]; unfold impl_InRange_d inRangeB; cases strLess key r.1 <;> rfl
theorem spec_InRange_is (r : tRange.D) (key) (k) : spec_InRange_k r key k = k (inRangeB r key) := by
  rw [spec_InRange_e]; unfold spec_InRange_d inRangeB; cases strLess key r.1 <;> rfl

theorem lensTxn {a : tTxn.D} (ha : tTxn.wt a ≤ 1048576) : a.2.2.2.2.1.length ≤ 1048576 ∧ a.2.2.2.2.2.1.length ≤ 1048576 := by
  rw [wtTxn] at ha
  exact ⟨len_le (T := tRange) (by omega), len_le (T := tWrite) (by omega)⟩

end
end Go.VE
