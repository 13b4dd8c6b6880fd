/- Plain laws: the order of texts. -/
import Derived.Test.YteolgjmeigifbaaP2
import Derived.Laws.Strings
namespace Go.VE
set_option linter.unusedVariables false

theorem strEq_iff {x y : ByteArray} : strEq x y = true ↔ x = y := by
  rw [strEq_eq, beq_iff_eq, ByteArray.toList_eq, ByteArray.toList_eq]
  constructor
  · intro h
    cases x; cases y
    simp only at h
    rw [Array.ext' h]
  · rintro rfl; rfl

theorem strEq_beq (x y : ByteArray) : strEq x y = decide (x = y) := by
  rw [Bool.eq_iff_iff, strEq_iff, decide_eq_true_eq]

theorem bLess_irrefl : ∀ x : List UInt8, Op.bytesLess x x = false
  | [] => rfl
  | a :: l => by
    simp only [Op.bytesLess, bLess_irrefl l, Bool.and_false, Bool.or_false, decide_eq_false_iff_not]
    exact UInt8.lt_irrefl a

theorem bLess_trans : ∀ x y z : List UInt8, Op.bytesLess x y = true → Op.bytesLess y z = true → Op.bytesLess x z = true
  | _, _, [], _, h => by cases ‹List UInt8› <;> simp [Op.bytesLess] at h
  | [], _, _ :: _, _, _ => rfl
  | a :: x, [], c :: z, h, _ => by simp [Op.bytesLess] at h
  | a :: x, b :: y, c :: z, h1, h2 => by
    simp only [Op.bytesLess, Bool.or_eq_true, decide_eq_true_eq, Bool.and_eq_true, beq_iff_eq] at h1 h2 ⊢
    rcases h1 with h1 | ⟨rfl, h1⟩
    · rcases h2 with h2 | ⟨rfl, h2⟩
      · exact .inl (UInt8.lt_trans h1 h2)
      · exact .inl h1
    · rcases h2 with h2 | ⟨rfl, h2⟩
      · exact .inl h2
      · exact .inr ⟨rfl, bLess_trans x y z h1 h2⟩

theorem bLess_tri : ∀ x y : List UInt8, Op.bytesLess x y = true ∨ x = y ∨ Op.bytesLess y x = true
  | [], [] => .inr (.inl rfl)
  | [], _ :: _ => .inl rfl
  | _ :: _, [] => .inr (.inr rfl)
  | a :: x, b :: y => by
    simp only [Op.bytesLess, Bool.or_eq_true, decide_eq_true_eq, Bool.and_eq_true, beq_iff_eq, List.cons.injEq]
    have ht : a < b ∨ a = b ∨ b < a := by
      rcases Nat.lt_trichotomy a.toNat b.toNat with h | h | h
      · exact .inl (UInt8.lt_iff_toNat_lt.2 h)
      · exact .inr (.inl (UInt8.toNat_inj.1 h))
      · exact .inr (.inr (UInt8.lt_iff_toNat_lt.2 h))
    rcases ht with h | h | h
    · exact .inl (.inl h)
    · subst h
      rcases bLess_tri x y with h | h | h
      · exact .inl (.inr ⟨rfl, h⟩)
      · exact .inr (.inl ⟨rfl, h⟩)
      · exact .inr (.inr (.inr ⟨rfl, h⟩))
    · exact .inr (.inr (.inl h))

theorem strLess_irrefl (x : ByteArray) : strLess x x = false := by rw [strLess_eq]; exact bLess_irrefl _
theorem strLess_trans {x y z : ByteArray} (h1 : strLess x y = true) (h2 : strLess y z = true) : strLess x z = true := by
  rw [strLess_eq] at *; exact bLess_trans _ _ _ h1 h2
theorem strLess_asymm {x y : ByteArray} (h : strLess x y = true) : strLess y x = false := by
  cases h2 : strLess y x with
  | false => rfl
  | true => have := strLess_trans h h2; rw [strLess_irrefl] at this; cases this
theorem strLess_ne {x y : ByteArray} (h : strLess x y = true) : strEq x y = false := by
  cases h2 : strEq x y with
  | false => rfl
  | true => rw [strEq_iff] at h2; subst h2; rw [strLess_irrefl] at h; cases h
theorem strLess_tri (x y : ByteArray) : strLess x y = true ∨ x = y ∨ strLess y x = true := by
  rw [strLess_eq, strLess_eq]
  rcases bLess_tri x.toList y.toList with h | h | h
  · exact .inl h
  · refine .inr (.inl ?_)
    rw [← strEq_iff, strEq_eq, h]; simp
  · exact .inr (.inr h)
theorem strLess_not {x y : ByteArray} (h1 : strLess x y = false) (h2 : strEq x y = false) : strLess y x = true := by
  rcases strLess_tri x y with h | h | h
  · rw [h1] at h; cases h
  · rw [← strEq_iff, h2] at h; cases h
  · exact h

end Go.VE
