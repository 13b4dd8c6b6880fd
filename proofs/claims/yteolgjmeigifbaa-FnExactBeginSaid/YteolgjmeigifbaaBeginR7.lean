/- Plain laws: a range is read. -/
import Derived.Test.YteolgjmeigifbaaBeginR6
namespace Go.VE
noncomputable section
set_option linter.unusedVariables false
set_option linter.unusedSimpArgs false
set_option maxRecDepth 100000
theorem wve {t : tTxn.D} (hr : t.2.2.2.2.1.length ≤ 1048576) (hw : t.2.2.2.2.2.1.length ≤ 1048576) (k) : vwc t k = k (t.1, t.2.1, t.2.2.1, t.2.2.2.1, t.2.2.2.2.2.2.1, t.2.2.2.2.2.2.2, t.2.2.2.2.1, t.2.2.2.2.2.1) := by
  rw [wgo]
  unfold wcn
  rw [if_pos (by simp only [List.length_nil, VE.maxLen]; omega), if_pos (by simp only [List.length_nil, VE.maxLen]; omega)]
  rfl
theorem wvi {t : tTxn.D} (hr : t.2.2.2.2.1.length ≤ 1048576) (hw : t.2.2.2.2.2.1.length ≤ 1048576) (k) : vu8 t k = k (t.1, t.2.1, t.2.2.1, t.2.2.2.1, t.2.2.2.2.2.2.1, t.2.2.2.2.2.2.2, t.2.2.2.2.1, t.2.2.2.2.2.1) := by
  rw [wg0]
  unfold wcp
  rw [if_pos (by simp only [VE.maxLen]; omega), if_pos (by simp only [VE.maxLen]; omega)]
end
end Go.VE
