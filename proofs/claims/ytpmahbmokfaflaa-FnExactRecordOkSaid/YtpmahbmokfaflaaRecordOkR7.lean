/- Plain laws: a range is read. -/
import Derived.Test.YtpmahbmokfaflaaRecordOkR6
namespace Go.VE
noncomputable section
set_option linter.unusedVariables false
set_option linter.unusedSimpArgs false
set_option maxRecDepth 100000

theorem strEq_comm (a b : ByteArray) : strEq a b = strEq b a := by rw [strEq_eq, strEq_eq]; exact Bool.beq_comm
theorem eqRangeB_comm (a b : tRange.D) : Ty.eqB tRange a b = Ty.eqB tRange b a := by
  simp only [Ty.eqB]; rw [strEq_comm a.1, strEq_comm a.2]

def readRangeB (t : tTxn.D) (r : tRange.D) : Bool × List tRange.D :=
  bif !txnOkB t then (false, t.2.2.2.2.1) else bif t.2.1 != 1 then (false, t.2.2.2.2.1) else bif !rangeOkB r then (false, t.2.2.2.2.1) else
  bif t.2.2.2.2.1.any (fun y => Ty.eqB tRange y r) then (true, t.2.2.2.2.1) else bif decide ((t.2.2.2.2.1.length : Int) ≥ 8) then (false, t.2.2.2.2.1) else (true, t.2.2.2.2.1 ++ [r])

theorem lensTxn2 {a : tTxn.D} (ha : tTxn.wt a ≤ 1048576) : a.2.2.2.2.1.length ≤ 1048576 ∧ a.2.2.2.2.2.1.length ≤ 1048576 := by
  rw [wtTxn] at ha
  exact ⟨len_le (T := tRange) (by omega), len_le (T := tWrite) (by omega)⟩

end
end Go.VE
