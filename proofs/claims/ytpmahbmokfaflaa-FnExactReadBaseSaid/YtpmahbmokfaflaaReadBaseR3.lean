/- Plain laws: one of a list that passes a test; what is seen; the oldest. -/
import Derived.Test.YtpmahbmokfaflaaReadBaseR1
namespace Go.VE
noncomputable section
set_option linter.unusedVariables false
set_option linter.unusedSimpArgs false
set_option maxRecDepth 100000
theorem wvm (x : tTxn.D) (k) : vw2 x k = k (x.2.1 == 2) := by rw [wim]; rfl
theorem wuo (x : tTxn.D) (k) : vwd x k = k (x.2.1 == 3) := by rw [whw]; rfl
theorem vmy : ∃ n, Fuel = n + 1 := ⟨Fuel - 1, by have := vbq; omega⟩
end
end Go.VE
