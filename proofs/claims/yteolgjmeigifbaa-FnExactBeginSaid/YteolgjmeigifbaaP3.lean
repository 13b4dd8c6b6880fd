/- Plain laws: the order of texts. -/
import Derived.Test.YteolgjmeigifbaaP2
import Derived.Laws.Strings
namespace Go.VE
set_option linter.unusedVariables false
theorem vrc {x y : ByteArray} : vbd x y = true ↔ x = y := by
  rw [vqq, beq_iff_eq, ByteArray.toList_eq, ByteArray.toList_eq]
  constructor
  · intro h
    cases x; cases y
    simp only at h
    rw [Array.ext' h]
  · rintro rfl; rfl
theorem w0p (x y : ByteArray) : vbd x y = decide (x = y) := by
  rw [Bool.eq_iff_iff, vrc, decide_eq_true_eq]
theorem vtu : ∀ x : List UInt8, Op.bytesLess x x = false
  | [] => rfl
  | a :: l => by
    simp only [Op.bytesLess, vtu l, Bool.and_false, Bool.or_false, decide_eq_false_iff_not]
    exact UInt8.lt_irrefl a
theorem vwp : ∀ x y z : List UInt8, Op.bytesLess x y = true → Op.bytesLess y z = true → Op.bytesLess x z = true
  | _, _, [], _, h => by cases ‹List UInt8› <;> simp [Op.bytesLess] at h
  | [], _, _ :: _, _, _ => rfl
  | a :: x, [], c :: z, h, _ => by simp [Op.bytesLess] at h
  | a :: x, b :: y, c :: z, h1, h2 => by
    simp only [Op.bytesLess, Bool.or_eq_true, decide_eq_true_eq, Bool.and_eq_true, beq_iff_eq] at h1 h2 ⊢
    rcases h1 with h1 | ⟨rfl, h1⟩
    · rcases h2 with h2 | ⟨rfl, h2⟩
      · exact .inl (UInt8.lt_trans h1 h2)
      · exact .inl h1
    · rcases h2 with h2 | ⟨rfl, h2⟩
      · exact .inl h2
      · exact .inr ⟨rfl, vwp x y z h1 h2⟩
theorem v39 : ∀ x y : List UInt8, Op.bytesLess x y = true ∨ x = y ∨ Op.bytesLess y x = true
  | [], [] => .inr (.inl rfl)
  | [], _ :: _ => .inl rfl
  | _ :: _, [] => .inr (.inr rfl)
  | a :: x, b :: y => by
    simp only [Op.bytesLess, Bool.or_eq_true, decide_eq_true_eq, Bool.and_eq_true, beq_iff_eq, List.cons.injEq]
    have ht : a < b ∨ a = b ∨ b < a := by
      rcases Nat.lt_trichotomy a.toNat b.toNat with h | h | h
      · exact .inl (UInt8.lt_iff_toNat_lt.2 h)
      · exact .inr (.inl (UInt8.toNat_inj.1 h))
      · exact .inr (.inr (UInt8.lt_iff_toNat_lt.2 h))
    rcases ht with h | h | h
    · exact .inl (.inl h)
    · subst h
      rcases v39 x y with h | h | h
      · exact .inl (.inr ⟨rfl, h⟩)
      · exact .inr (.inl ⟨rfl, h⟩)
      · exact .inr (.inr (.inr ⟨rfl, h⟩))
    · exact .inr (.inr (.inl h))
theorem vo2 (x : ByteArray) : va2 x x = false := by rw [vi8]; exact vtu _
theorem v3k {x y z : ByteArray} (h1 : va2 x y = true) (h2 : va2 y z = true) : va2 x z = true := by
  rw [vi8] at *; exact vwp _ _ _ h1 h2
theorem wsi {x y : ByteArray} (h : va2 x y = true) : va2 y x = false := by
  cases h2 : va2 y x with
  | false => rfl
  | true => have := v3k h h2; rw [vo2] at this; cases this
theorem we8 {x y : ByteArray} (h : va2 x y = true) : vbd x y = false := by
  cases h2 : vbd x y with
  | false => rfl
  | true => rw [vrc] at h2; subst h2; rw [vo2] at h; cases h
theorem v9l (x y : ByteArray) : va2 x y = true ∨ x = y ∨ va2 y x = true := by
  rw [vi8, vi8]
  rcases v39 x.toList y.toList with h | h | h
  · exact .inl h
  · refine .inr (.inl ?_)
    rw [← vrc, vqq, h]; simp
  · exact .inr (.inr h)
theorem wuz {x y : ByteArray} (h1 : va2 x y = false) (h2 : vbd x y = false) : va2 y x = true := by
  rcases v9l x y with h | h | h
  · rw [h1] at h; cases h
  · rw [← vrc, h2] at h; cases h
  · exact h
end Go.VE
