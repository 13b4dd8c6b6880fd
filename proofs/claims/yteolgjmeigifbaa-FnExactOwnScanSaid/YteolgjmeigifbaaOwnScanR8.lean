/- Plain laws: a transaction's marks. -/
import Derived.Test.YteolgjmeigifbaaOwnScanR7
namespace Go.VE
noncomputable section
set_option linter.unusedVariables false
set_option linter.unusedSimpArgs false
set_option maxRecDepth 100000

theorem markR_length : ∀ (c : Int) (l : List tRange.D), (markR c l).length = l.length
  | _, [] => rfl
  | c, y :: l => by simp [markR, markR_length (c + 2) l]
theorem laws_markTxn_va_is {a0 a1 a2 a3 a4 a5} {r : List tRange.D} {w : List tWrite.D} (hr : r.length ≤ 1048577) (hw : w.length ≤ 1048576) (hr2 : r.length ≤ 1048576) (k) :
    laws_markTxn_va_k a0 a1 a2 a3 a4 a5 1 r w k = k (1 + 2 * (r.length : Int) + 3 * (w.length : Int), markR 1 r, markW (1 + 2 * (r.length : Int)) w) := by
  rw [laws_markTxn_va_e]
  unfold laws_markTxn_va_d
  simp only [laws_markRangeS_vo_is hr2 (show (0 : Int) ≤ 1 by decide) (show (1 : Int) ≤ 5000000 by decide), laws_markWriteS_vo_is hw (show (0 : Int) ≤ 1 + 2 * (r.length : Int) by omega) (show 1 + 2 * (r.length : Int) ≤ 5000000 by omega)]

end
end Go.VE
