/- Plain laws of the marks: what is marked in place is held. -/
import Derived.Test.YtpmahbmokfaflaaRecordOkR5
namespace Go.VE
noncomputable section
set_option linter.unusedVariables false
set_option linter.unusedSimpArgs false
set_option maxRecDepth 100000

theorem bytesOf_one (n : Int) : (bytesOf [n]).size = 1 := rfl

theorem set_mid {α : Type} (pre : List α) (y v : α) (l : List α) : (pre ++ y :: l).set pre.length v = pre ++ v :: l := by simp
theorem getD_mid {α : Type} (pre : List α) (y d : α) (l : List α) : (pre ++ y :: l).getD pre.length d = y := by simp [List.getD]

end
end Go.VE
