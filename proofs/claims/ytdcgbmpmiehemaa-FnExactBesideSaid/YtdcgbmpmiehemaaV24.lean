/- Closed forms: native programs in passing style, and how a function is told by one. -/
import Derived.Test.YtdcgbmpmiehemaaV23
namespace Go.VE
set_option linter.unusedVariables false
set_option linter.unusedSimpArgs false

/-- A program that hands on one value, or none. -/
def Par {α : Type} (F : (α → Option Res) → Option Res) : Prop := ∀ k r, F k = some r → ∃ y, k y = some r ∧ ∀ k', F k' = k' y

section
variable {α β γ : Type}

theorem par_ret (y : α) : Par fun k => k y := fun k r h => ⟨y, h, fun _ => rfl⟩

theorem par_none : Par fun (_ : α → Option Res) => none := fun k r h => by cases h

theorem par_bif {c : Bool} {F G : (α → Option Res) → Option Res} (hF : Par F) (hG : Par G) : Par fun k => bif c then F k else G k := by
  cases c
  · exact hG
  · exact hF

theorem par_ite {c : Prop} [Decidable c] {F G : (α → Option Res) → Option Res} (hF : Par F) (hG : Par G) : Par fun k => if c then F k else G k := by
  intro k r h
  by_cases hc : c
  · simp only [hc, if_true] at h ⊢; exact hF k r h
  · simp only [hc, if_false] at h ⊢; exact hG k r h

theorem Par.bind {F : (β → Option Res) → Option Res} (hF : Par F) {H : β → (α → Option Res) → Option Res} (hH : ∀ v, Par (H v)) : Par fun k => F fun v => H v k := by
  intro k r h
  obtain ⟨v, h1, h2⟩ := hF _ _ h
  obtain ⟨y, h3, h4⟩ := hH v _ _ h1
  exact ⟨y, h3, fun k' => (h2 _).trans (h4 k')⟩

theorem Par.bind2 {F : (β ⊕ γ → Option Res) → Option Res} (hF : Par F) {H : β → (α → Option Res) → Option Res} {H' : γ → (α → Option Res) → Option Res} (hH : ∀ v, Par (H v)) (hH' : ∀ v, Par (H' v)) :
    Par fun k => F (Sum.elim (fun v => H v k) fun v => H' v k) := by
  intro k r h
  obtain ⟨v, h1, h2⟩ := hF _ _ h
  cases v with
  | inl v => obtain ⟨y, h3, h4⟩ := hH v _ _ h1; exact ⟨y, h3, fun k' => (h2 _).trans (h4 k')⟩
  | inr v => obtain ⟨y, h3, h4⟩ := hH' v _ _ h1; exact ⟨y, h3, fun k' => (h2 _).trans (h4 k')⟩

/-- Elements of a sum, one arm after the other. -/
theorem par_elim {H : β → (α → Option Res) → Option Res} {H' : γ → (α → Option Res) → Option Res} (hH : ∀ v, Par (H v)) (hH' : ∀ v, Par (H' v)) (s : β ⊕ γ) :
    Par fun k => Sum.elim (fun v => H v k) (fun v => H' v k) s := by
  cases s with
  | inl v => exact hH v
  | inr v => exact hH' v

/-- A loop: the body hands on a new state, or an end. -/
def loopK (body : β → (β ⊕ γ → Option Res) → Option Res) : Nat → β → (γ → Option Res) → Option Res
  | 0, _, _ => none
  | n + 1, x, k => body x (Sum.elim (fun y => loopK body n y k) k)

theorem par_loop {body : β → (β ⊕ γ → Option Res) → Option Res} (hb : ∀ x, Par (body x)) : ∀ (n : Nat) (x : β), Par (loopK body n x)
  | 0, _ => par_none
  | n + 1, x => (hb x).bind2 (fun y => par_loop hb n y) (fun z => par_ret z)

theorem fuel_ex : ∃ n : Nat, 18446744073709551616 ≤ n := ⟨_, Nat.le_refl _⟩

/-- As many rounds as no loop takes. -/
noncomputable def Fuel : Nat := Classical.choose fuel_ex

theorem fuel_big : 18446744073709551616 ≤ Fuel := Classical.choose_spec fuel_ex

/-- A loop's body, told by a native one. -/
theorem loop_runs {G : Glob} {F : Fx} {keep : List Nat} {b : Code} {body : β → (β ⊕ γ → Option Res) → Option Res} (hb : ∀ x, Par (body x)) (vals : β → List AV) (st : β → St)
    (ends : γ → Out × List AV × St) (hne : ∀ z, (ends z).1 ≠ .norm)
    (hx : ∀ x, exec G F b (bodyK F keep) (setEs (deads F.nt) keep (vals x)) (st x) = body x (Sum.elim (fun y => some ⟨.norm, vals y, st y⟩) fun z => some ⟨(ends z).1, (ends z).2.1, (ends z).2.2⟩)) :
    ∀ (n : Nat) (x : β) (k : Out → List AV → St → Option Res) (r : Res), loopK body n x (fun z => k (ends z).1 (ends z).2.1 (ends z).2.2) = some r →
      ∃ m o vs st', LoopRuns G F keep b m (vals x) (st x) o vs st' ∧ k o vs st' = some r
  | 0, x, k, r, h => by cases h
  | n + 1, x, k, r, h => by
    obtain ⟨y, h1, h2⟩ := hb x _ _ h
    have h3 := (hx x).trans (h2 _)
    cases y with
    | inl y =>
      obtain ⟨m, o, vs, st', g1, g2⟩ := loop_runs hb vals st ends hne hx n y k r h1
      exact ⟨m + 1, o, vs, st', .more h3 g1, g2⟩
    | inr z => exact ⟨1, _, _, _, .stop h3 (hne z), h1⟩

/-- One function more. -/
def Glob.add (G : Glob) (f : Nat) (g : List AV → St → K1 → Option Res) : Glob :=
  { G with call := fun f' => bif Nat.beq f f' then g else G.call f' }

theorem GlobOk.add {P : Program} {G : Glob} (h : GlobOk P G) {f : Nat} {g : List AV → St → K1 → Option Res} (he : Enter P f) (hc : Contract P f g) : GlobOk P (G.add f g) where
  tys := ⟨h.tys.ty, h.tys.fld, h.tys.bld⟩
  call := fun f' => by
    simp only [Glob.add]
    cases hb : Nat.beq f f' with
    | true =>
      have := Nat.eq_of_beq_eq_true hb
      subst this
      exact .inr ⟨he, hc⟩
    | false => exact h.call f'
  eqs := h.eqs

/-- A function told by a native program: at these arguments it hands on what 'g' hands on. -/
theorem told {P : Program} {G : Glob} (hG : GlobOk P G) (hm : P.follows .mixedOrders = true) {f : FuncId} {fn : Func} {c : Code} (hf : P.funcs[f]? = some fn) (hb : fn.body = some c) {g : List AV → St → K1 → Option Res}
    (hg : ∀ args s k r, g args s k = some r → ∃ loops : Nat → Option LoopSpec, (Par fun k : AV × St → Option Res => g args s fun v s' => k (v, s')) ∧
      execFn G loops fn args s = g args s (fun v s' => some ⟨.ret, [v], s'⟩) ∧ LoopsOk G ⟨s.length, args.length + (fn.ntmps - args.length), loops⟩ c) : Contract P f g := by
  refine fn_sound hG hm hf hb fun args s k r hk => ?_
  obtain ⟨loops, h1, h2, h3⟩ := hg args s k r hk
  obtain ⟨⟨v, s'⟩, h4, h5⟩ := h1 (fun p => k p.1 p.2) r hk
  exact ⟨loops, v, s', h4, h2.trans (h5 fun p => some ⟨.ret, [p.1], p.2⟩), h3⟩

end
end Go.VE
