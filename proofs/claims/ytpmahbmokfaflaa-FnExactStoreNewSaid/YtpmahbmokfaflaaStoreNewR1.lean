/- Plain laws: keys, ranges, writes, transactions, who is ahead of whom. -/
import Derived.Test.YtpmahbmokfaflaaStoreNewL
namespace Go.VE
noncomputable section
set_option linter.unusedVariables false
set_option linter.unusedSimpArgs false
set_option maxRecDepth 100000

def withinB (n lo hi : Int) : Bool := decide (n ≥ lo) && decide (n ≤ hi)
theorem impl_within_is (a b c) (k) : impl_within_k a b c k = k (withinB a b c) := by
  rw [impl_within_e]; unfold impl_within_d withinB; cases decide (a ≥ b) <;> rfl
theorem spec_l01In_is (a b c) (k) : spec_l01In_k a b c k = k (withinB a b c) := by
  rw [spec_l01In_e]; unfold spec_l01In_d withinB; cases decide (a ≥ b) <;> rfl

end
end Go.VE
