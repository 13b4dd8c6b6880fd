/- Plain laws of lists, loops and numbers. -/
import Derived.Test.YtpmahbmokfaflaaU25
namespace Go.VE
set_option linter.unusedVariables false

theorem wrap64 {x : Int} (h1 : -9223372036854775808 ≤ x) (h2 : x < 9223372036854775808) : IntKind.wrap .i64 x = x := by
  unfold IntKind.wrap
  simp only [IntKind.bits, IntKind.signed]
  have e : (2 : Int) ^ 64 = 18446744073709551616 := by decide
  have e3 : (2 : Int) ^ 63 = 9223372036854775808 := by decide
  simp [e, e3]
  omega

theorem wrap_succ {i : Nat} (hi : (i : Int) < 9223372036854775807) : IntKind.wrap .i64 ((i : Int) + 1) = ((i + 1 : Nat) : Int) := by
  rw [wrap64 (by omega) (by omega)]; push_cast; rfl

section
variable {α : Type} {xs : List α} {i : Nat} {y : α} {l : List α}

theorem lwl_nil (h : xs.drop i = []) : ¬ ((i : Int) < (xs.length : Int)) := by
  have := congrArg List.length h
  simp at this
  omega

theorem drop_lt (h : xs.drop i = y :: l) : i < xs.length := by
  have := congrArg List.length h
  simp at this
  omega

theorem lwl_cons (h : xs.drop i = y :: l) (hlen : xs.length < 9223372036854775807) :
    (i : Int) < (xs.length : Int) ∧ 0 ≤ (i : Int) ∧ xs.drop (i + 1) = l ∧ IntKind.wrap .i64 ((i : Int) + 1) = ((i + 1 : Nat) : Int) ∧ (i : Int).toNat = i := by
  have hlt := drop_lt h
  refine ⟨by omega, by omega, ?_, wrap_succ (by omega), by simp⟩
  have := congrArg (List.drop 1) h
  simpa [Nat.add_comm] using this

theorem drop_get (h : xs.drop i = y :: l) : xs[i]? = some y := by
  have := congrArg (·[0]?) h
  simpa using this

theorem lwl_get (h : xs.drop i = y :: l) : (∀ d : α, rd d xs (i : Int) = y) ∧ ∀ d : α, xs.getD i d = y := by
  have h1 := drop_get h
  refine ⟨fun d => ?_, fun d => ?_⟩
  · simp [rd, h1]
  · simp [h1]

theorem lwl_fuel (hlen : xs.length < 9223372036854775807) : xs.length < Fuel := Nat.lt_of_lt_of_le (by omega) fuel_big
end

section
variable {s : ByteArray} {i : Nat} {y : Int} {l : List Int}

theorem lws_nil (h : (intsOf s).drop i = []) : ¬ ((i : Int) < (s.size : Int)) := by
  rw [← intsOf_length]; exact lwl_nil h

theorem lws_cons (h : (intsOf s).drop i = y :: l) (hlen : s.size < 9223372036854775807) :
    (i : Int) < (s.size : Int) ∧ 0 ≤ (i : Int) ∧ (intsOf s).drop (i + 1) = l ∧ IntKind.wrap .i64 ((i : Int) + 1) = ((i + 1 : Nat) : Int) ∧ (i : Int).toNat = i := by
  rw [← intsOf_length] at *; exact lwl_cons h hlen

theorem lws_get (h : (intsOf s).drop i = y :: l) : bt s (i : Int) = y := by
  have h1 := drop_get h
  unfold intsOf at h1
  simp only [List.getElem?_map, Option.map_eq_some_iff] at h1
  obtain ⟨b, h2, h3⟩ := h1
  simp at h2
  simp [bt, h2, h3]

theorem lws_fuel (hlen : s.size < 9223372036854775807) : (intsOf s).length < Fuel := by rw [intsOf_length]; exact Nat.lt_of_lt_of_le (by omega) fuel_big
end

end Go.VE
