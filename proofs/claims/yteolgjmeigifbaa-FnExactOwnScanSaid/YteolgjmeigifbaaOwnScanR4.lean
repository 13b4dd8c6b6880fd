/- Plain laws: where a name or an Id stands; a transaction's text. -/
import Derived.Test.YteolgjmeigifbaaOwnScanR3
namespace Go.VE
noncomputable section
set_option linter.unusedVariables false
set_option linter.unusedSimpArgs false
set_option maxRecDepth 100000

theorem bytes_ext {a b : ByteArray} (h : a.data.toList = b.data.toList) : a = b := by
  cases a; cases b; congr 1; exact Array.toList_inj.mp h

theorem strEq_true {a b : ByteArray} (h : strEq a b = true) : a = b := by
  rw [strEq_eq, beq_iff_eq, ByteArray.toList_eq, ByteArray.toList_eq] at h
  exact bytes_ext h

end
end Go.VE
