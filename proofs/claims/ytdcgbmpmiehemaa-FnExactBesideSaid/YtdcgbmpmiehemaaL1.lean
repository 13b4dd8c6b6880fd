/- Plain laws: loops told natively. -/
import Derived.Test.YtdcgbmpmiehemaaV25
namespace Go.VE
set_option linter.unusedVariables false

theorem wrap64 {x : Int} (h1 : -9223372036854775808 ≤ x) (h2 : x < 9223372036854775808) : IntKind.wrap .i64 x = x := by
  unfold IntKind.wrap
  simp only [IntKind.bits, IntKind.signed]
  have e : (2 : Int) ^ 64 = 18446744073709551616 := by decide
  have e3 : (2 : Int) ^ 63 = 9223372036854775808 := by decide
  simp [e, e3]
  omega

section
variable {β γ : Type}

/-- A loop that keeps I, of at most len rounds. -/
theorem loop_inv {body : β → (β ⊕ γ → Option Res) → Option Res} (len : Nat) (I : Nat → β → Prop) (post : γ → Prop)
    (hstep : ∀ i x, I i x → (i < len ∧ ∃ y, I (i + 1) y ∧ ∀ k, body x k = k (.inl y)) ∨ ∃ e, post e ∧ ∀ k, body x k = k (.inr e)) :
    ∀ (m i n : Nat) (x : β), I i x → len ≤ i + m → m < n → ∃ e, post e ∧ ∀ K, loopK body n x K = K e
  | m, i, 0, x, _, _, hn => by omega
  | 0, i, n + 1, x, hI, hm, _ => by
    rcases hstep i x hI with ⟨hlt, _⟩ | ⟨e, h1, h2⟩
    · omega
    · exact ⟨e, h1, fun K => h2 _⟩
  | m + 1, i, n + 1, x, hI, hm, hn => by
    rcases hstep i x hI with ⟨_, y, h1, h2⟩ | ⟨e, h1, h2⟩
    · obtain ⟨e, h3, h4⟩ := loop_inv len I post hstep m (i + 1) n y h1 (by omega) (by omega)
      exact ⟨e, h3, fun K => (h2 _).trans (h4 K)⟩
    · exact ⟨e, h1, fun K => h2 _⟩

theorem loop_fuel {body : β → (β ⊕ γ → Option Res) → Option Res} (len : Nat) (hlen : len < 18446744073709551616) (I : Nat → β → Prop) (post : γ → Prop)
    (hstep : ∀ i x, I i x → (i < len ∧ ∃ y, I (i + 1) y ∧ ∀ k, body x k = k (.inl y)) ∨ ∃ e, post e ∧ ∀ k, body x k = k (.inr e)) {x : β} (hx : I 0 x) :
    ∃ e, post e ∧ ∀ K, loopK body Fuel x K = K e :=
  loop_inv len I post hstep len 0 Fuel x hx (by omega) (Nat.lt_of_lt_of_le hlen fuel_big)
end

theorem rd_get {α : Type} (d : α) (xs : List α) (i : Nat) (hi : i < xs.length) : rd d xs (i : Int) = xs[i] := by
  simp [rd, hi]

end Go.VE
