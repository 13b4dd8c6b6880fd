/- Plain laws: a transaction's marks. -/
import Derived.Test.YtbedbcnmfoildaaReadTxnR7
namespace Go.VE
noncomputable section
set_option linter.unusedVariables false
set_option linter.unusedSimpArgs false
set_option maxRecDepth 100000

theorem markR_length : ∀ (c : Int) (l : List tRange.D), (markR c l).length = l.length
  | _, [] => rfl
  | c, y :: l => by simp [markR, markR_length (c + 2) l]
theorem markW_length : ∀ (c : Int) (l : List tWrite.D), (markW c l).length = l.length
  | _, [] => rfl
  | c, y :: l => by simp [markW, markW_length (c + 3) l]

theorem laws_markTxn_va_is {a0 a1 a2 a3 a4 a5} {r : List tRange.D} {w : List tWrite.D} (hr : r.length ≤ 1048577) (hw : w.length ≤ 1048576) (hr2 : r.length ≤ 1048576) (k) :
    laws_markTxn_va_k a0 a1 a2 a3 a4 a5 1 r w k = k (1 + 2 * (r.length : Int) + 3 * (w.length : Int), markR 1 r, markW (1 + 2 * (r.length : Int)) w) := by
  rw [laws_markTxn_va_e]
  unfold laws_markTxn_va_d
  simp only [laws_markRangeS_vo_is hr2 (show (0 : Int) ≤ 1 by decide) (show (1 : Int) ≤ 5000000 by decide), laws_markWriteS_vo_is hw (show (0 : Int) ≤ 1 + 2 * (r.length : Int) by omega) (show 1 + 2 * (r.length : Int) ≤ 5000000 by omega)]

theorem laws_heldTxn_marked {a b c d : Int} {f : Bool} {n : ByteArray} {r : List tRange.D} {w : List tWrite.D} (hr : r.length ≤ 1048576) (hw : w.length ≤ 1048576) (k) :
    laws_heldTxn_k (a, (b, (c, (d, (markR 1 r, (markW (1 + 2 * (r.length : Int)) w, (f, n))))))) 1 k = k (1 + 2 * (r.length : Int) + 3 * (w.length : Int)) := by
  have h1 : ∀ k, laws_heldRangeS_k (markR 1 r) 1 k = k (1 + 2 * (r.length : Int)) := fun k => by
    rw [laws_heldRangeS_r (by rw [markR_length]; omega)]
    unfold laws_heldRangeS_t
    obtain ⟨j, hj⟩ := heldRangeS_loop (u0 := markR 1 r) (u2 := 0) r 1 0 (by decide) (by omega)
    rw [hj]; rfl
  have h2 : ∀ k, laws_heldWriteS_k (markW (1 + 2 * (r.length : Int)) w) (1 + 2 * (r.length : Int)) k = k (1 + 2 * (r.length : Int) + 3 * (w.length : Int)) := fun k => by
    rw [laws_heldWriteS_r (by rw [markW_length]; omega)]
    unfold laws_heldWriteS_t
    obtain ⟨j, hj⟩ := heldWriteS_loop (u0 := markW (1 + 2 * (r.length : Int)) w) (u2 := 0) w (1 + 2 * (r.length : Int)) 0 (by omega) (by omega)
    rw [hj]; rfl
  rw [laws_heldTxn_e]
  unfold laws_heldTxn_d
  simp only [h1, h2, decide_eq_false (show ¬ (1 + 2 * (r.length : Int)) < 0 by omega), decide_eq_false (show ¬ (1 + 2 * (r.length : Int) + 3 * (w.length : Int)) < 0 by omega), cond_false]


theorem readRange_len {t : tTxn.D} (ht : tTxn.wt t ≤ 1048576) (r : tRange.D) : (readRangeB t r).2.length ≤ 1048576 := by
  have hl := lensTxn2 ht
  unfold readRangeB
  cases hok : txnOkB t
  · exact hl.1
  · have h8 := (txnOk_small hok).2.2.2.2.1
    cases t.2.1 != 1 <;> cases rangeOkB r <;> cases t.2.2.2.2.1.any (fun y => Ty.eqB tRange y r) <;> cases decide ((t.2.2.2.2.1.length : Int) ≥ 8) <;> simp only [Bool.not_true, Bool.not_false, cond_true, cond_false, List.length_append, List.length_singleton] <;> omega

end
end Go.VE
