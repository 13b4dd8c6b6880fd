/- Plain laws: a transaction's marks. -/
import Derived.Test.YtpmahbmokfaflaaGetKeyR7
namespace Go.VE
noncomputable section
set_option linter.unusedVariables false
set_option linter.unusedSimpArgs false
set_option maxRecDepth 100000

theorem markR_length : ∀ (c : Int) (l : List tRange.D), (markR c l).length = l.length
  | _, [] => rfl
  | c, y :: l => by simp [markR, markR_length (c + 2) l]
theorem markW_length : ∀ (c : Int) (l : List tWrite.D), (markW c l).length = l.length
  | _, [] => rfl
  | c, y :: l => by simp [markW, markW_length (c + 3) l]

theorem readRange_len {t : tTxn.D} (ht : tTxn.wt t ≤ 1048576) (r : tRange.D) : (readRangeB t r).2.length ≤ 1048576 := by
  have hl := lensTxn2 ht
  unfold readRangeB
  cases hok : txnOkB t
  · exact hl.1
  · have h8 := (txnOk_small hok).2.2.2.2.1
    cases t.2.1 != 1 <;> cases rangeOkB r <;> cases t.2.2.2.2.1.any (fun y => Ty.eqB tRange y r) <;> cases decide ((t.2.2.2.2.1.length : Int) ≥ 8) <;> simp only [Bool.not_true, Bool.not_false, cond_true, cond_false, List.length_append, List.length_singleton] <;> omega

end
end Go.VE
