/- Regions whose order is drawn: allocs wait till nothing else may come up. -/
import Derived.Test.YtpljjegocfmbeaaGreatV19
namespace Go.VE
set_option linter.unusedVariables false
set_option linter.unusedSimpArgs false

section
variable {P : Program} {G : Glob} {X : Nat → Prop} {h : Heap} {I : Nat → Prop} {μ : List Slot} {s : St}

/-- None of the exempt ones has come up. -/
def NoEx (Ex : Nat → Bool) (listed : Array Bool) : Prop := ∀ x, Ex x = true → listed.getD x true = false

/-- Whatever order is picked; S holds behind every operation but the exempt ones. -/
def wpAnyL (P : Program) (md : Region.Mode) (ops : Array Oper) (Q : Exit → Act → World → Prop) (Ex : Nat → Bool) (S : World → Prop) : Nat → Array Bool → Act → World → Prop
  | 0, listed, a, w => Region.ready md ops listed = [] ∧ Q .normal a w
  | fuel + 1, listed, a, w =>
    (Region.ready md ops listed = [] → Q .normal a w) ∧
    ∀ i ∈ Region.ready md ops listed, wpOp P ops Q i (fun a' w' => (NoEx Ex (listed.setIfInBounds i true) → S w') ∧ wpAnyL P md ops Q Ex S fuel (listed.setIfInBounds i true) a' w') a w

theorem wpAny_of_L {ops : Array Oper} {Q : Exit → Act → World → Prop} {md : Region.Mode} {Ex : Nat → Bool} {S : World → Prop} : ∀ (fuel : Nat) (listed : Array Bool) (a : Act) (w : World),
    wpAnyL P md ops Q Ex S fuel listed a w → wpAny P md ops Q fuel listed a w
  | 0, _, _, _, h => h
  | fuel + 1, _, _, _, h => ⟨h.1, fun i hi => wpOp_mono (fun a' w' h' => wpAny_of_L fuel _ a' w' h'.2) (h.2 i hi)⟩

theorem wpAnyL_monoS {ops : Array Oper} {Q : Exit → Act → World → Prop} {md : Region.Mode} {Ex : Nat → Bool} {S S' : World → Prop} (hS : ∀ w, S' w → S w) : ∀ (fuel : Nat) (listed : Array Bool) (a : Act) (w : World),
    wpAnyL P md ops Q Ex S' fuel listed a w → wpAnyL P md ops Q Ex S fuel listed a w
  | 0, _, _, _, h => h
  | fuel + 1, _, _, _, h => ⟨h.1, fun i hi => wpOp_mono (fun a' w' h' => ⟨fun hne => hS _ (h'.1 hne), wpAnyL_monoS hS fuel _ a' w' h'.2⟩) (h.2 i hi)⟩

theorem wpAnyL_done {ops : Array Oper} {Q : Exit → Act → World → Prop} {md : Region.Mode} {S : World → Prop} {Ex : Nat → Bool} {listed : Array Bool} {a : Act} {w : World} (hr : Region.ready md ops listed = []) (h : Q .normal a w) :
    ∀ fuel, wpAnyL P md ops Q Ex S fuel listed a w
  | 0 => ⟨hr, h⟩
  | _ + 1 => ⟨fun _ => h, by rw [hr]; simp⟩

theorem NoEx.mono {Ex : Nat → Bool} {listed : Array Bool} {i : Nat} (h : NoEx Ex (listed.setIfInBounds i true)) : NoEx Ex listed := fun x hx => by
  have h1 := h x hx
  by_cases hxi : i = x
  · subst hxi
    rcases Nat.lt_or_ge i listed.size with h' | h'
    · simp [h'] at h1
    · simp [Array.getElem?_eq_none h'] at h1
  · rwa [getD_set_ne true hxi] at h1

theorem NoEx.set {Ex : Nat → Bool} {listed : Array Bool} {i : Nat} (h : NoEx Ex listed) (hi : Ex i = false) : NoEx Ex (listed.setIfInBounds i true) := fun x hx => by
  have hxi : i ≠ x := fun e => by subst e; rw [hi] at hx; cases hx
  rw [getD_set_ne true hxi]; exact h x hx

theorem wpAnyL_first {ops : Array Oper} {Q : Exit → Act → World → Prop} {md : Region.Mode} {S S0 : World → Prop} {Ex : Nat → Bool} (h0 : ∀ w, S w → S0 w) {i : Nat} {oi : Oper} {v : Value} (hi : ops[i]? = some oi)
    (hE : ∀ j oj, ops[j]? = some oj → j ≠ i → Ex j = true → (∀ e ∈ oj.after, Region.binds md e = true → e.on ≠ i) → ∀ w, S0 w) (hEi : Ex i = false)
    (hsel : ∀ (j : Nat) (o : Oper) cs b, ops[j]? = some o → o.op ≠ .select cs b)
    (hQ : ∀ c a w, Q (.panic c) (a.put oi.dst v) w → Q (.panic c) a w) :
    ∀ (fuel : Nat) (listed : Array Bool) (a : Act) (w : World),
      (∀ j oj, ops[j]? = some oj → j ≠ i → listed.getD j true = false → (∀ e ∈ oj.after, Region.binds md e = true → e.on ≠ i) → oi.apart ops oj = true) →
      i ∈ Region.ready md ops listed → YieldsIf P ops S0 oi v a → (NoEx Ex listed ∨ ∀ w, S0 w) → S0 w → (NoEx Ex listed → S w) →
      wpAnyL P md ops Q Ex S fuel (listed.setIfInBounds i true) (a.put oi.dst v) w → wpAnyL P md ops Q Ex S (fuel + 1) listed a w := by
  intro fuel
  induction fuel with
  | zero =>
    intro listed a w _ hr hy hN hS hSi H
    refine ⟨fun h => (by rw [h] at hr; cases hr), fun j hj => ?_⟩
    by_cases hji : j = i
    · subst hji; exact hy.wpOp hi hS ⟨fun hn => hSi hn.mono, H⟩
    · have := ready_mono hj hji
      rw [H.1] at this
      cases this
  | succ fuel ih =>
    intro listed a w hfree hr hy hN hS hSi H
    refine ⟨fun h => (by rw [h] at hr; cases hr), fun j hj => ?_⟩
    by_cases hji : j = i
    · subst hji; exact hy.wpOp hi hS ⟨fun hn => hSi hn.mono, H⟩
    · have h1 := H.2 j (ready_mono hj hji)
      obtain ⟨hjun, oj, hoj, hall⟩ := mem_ready.1 hj
      have hnot : ∀ e ∈ oj.after, Region.binds md e = true → e.on ≠ i := fun e he hb heq => by
        have h1 := hall e he hb
        have h0 := (mem_ready.1 hr).1
        rw [heq] at h1
        rcases Nat.lt_or_ge i listed.size with h' | h'
        · simp [h'] at h0 h1; rw [h0] at h1; cases h1
        · simp [Array.getElem?_eq_none h'] at h1
      have h2 := wpOp_putIf hoj (hfree j oj hoj hji hjun hnot) (fun cs b => hsel i oi cs b hi) (fun cs b => hsel j oj cs b hoj) hQ hy h1
      have hfree' : ∀ k ok, ops[k]? = some ok → k ≠ i → (listed.setIfInBounds j true).getD k true = false →
          (∀ e ∈ ok.after, Region.binds md e = true → e.on ≠ i) → oi.apart ops ok = true := fun k ok hk hki hun hno => by
        refine hfree k ok hk hki ?_ hno
        by_cases hjk : j = k
        · subst hjk; exact hjun
        · rw [getD_set_ne true hjk] at hun; exact hun
      refine wpOp_mono (fun a' w' h3 => ?_) h2
      have hcomm : (listed.setIfInBounds j true).setIfInBounds i true = (listed.setIfInBounds i true).setIfInBounds j true := Array.setIfInBounds_comm _ _ hji
      have hN' : NoEx Ex (listed.setIfInBounds j true) ∨ ∀ w, S0 w := by
        rcases hN with hN | hN
        · cases hex : Ex j with
          | false => exact .inl (hN.set hex)
          | true => exact .inr (hE j oj hoj hji hex hnot)
        · exact .inr hN
      have hS' : NoEx Ex (listed.setIfInBounds j true) → S w' := fun hn => h3.2.1 (hcomm ▸ hn.set hEi)
      have hSw : S0 w' := by
        rcases hN' with hn | hn
        · exact h0 _ (hS' hn)
        · exact hn w'
      refine ⟨hS', ih (listed.setIfInBounds j true) a' w' hfree' (ready_mono hr (Ne.symm hji)) h3.1 hN' hSw hS' ?_⟩
      rw [hcomm]
      exact h3.2.2

/-! ### What is listed, and what waits -/

/-- An array with these listed, too. -/
structure Lst (listed : Array Bool) (D : List (Nat × Nat)) (lst : Array Bool) : Prop where
  size : lst.size = listed.size
  on : ∀ j d, (∃ p ∈ D, p.1 = j) → j < listed.size → lst.getD j d = true
  off : ∀ j d, (¬ ∃ p ∈ D, p.1 = j) → lst.getD j d = listed.getD j d

theorem getD_ge {listed : Array Bool} {j : Nat} {d : Bool} (h : listed.size ≤ j) : listed.getD j d = d := by simp [Array.getElem?_eq_none h]
theorem getD_set_eq {listed : Array Bool} {j : Nat} {d : Bool} (h : j < listed.size) : (listed.setIfInBounds j true).getD j d = true := by simp [h]

theorem lt_of_unlisted {listed : Array Bool} {j : Nat} (h : listed.getD j true = false) : j < listed.size := by
  rcases Nat.lt_or_ge j listed.size with h1 | h1
  · exact h1
  · rw [getD_ge h1] at h; cases h

theorem Lst.cons {listed : Array Bool} {D : List (Nat × Nat)} {lst : Array Bool} (h : Lst listed D lst) (i b : Nat) : Lst listed ((i, b) :: D) (lst.setIfInBounds i true) where
  size := by simp [h.size]
  on := fun j d hj hlt => by
    by_cases hij : i = j
    · subst hij; exact getD_set_eq (h.size ▸ hlt)
    · rw [getD_set_ne d hij]
      obtain ⟨p, hp, hpj⟩ := hj
      simp only [List.mem_cons] at hp
      rcases hp with rfl | hp
      · exact absurd hpj hij
      · exact h.on j d ⟨p, hp, hpj⟩ hlt
  off := fun j d hj => by
    have hij : i ≠ j := fun e => hj ⟨(i, b), by simp, e⟩
    rw [getD_set_ne d hij]
    exact h.off j d fun ⟨p, hp, hpj⟩ => hj ⟨p, by simp [hp], hpj⟩

theorem Lst.step {listed : Array Bool} {D : List (Nat × Nat)} {lst : Array Bool} (h : Lst listed D lst) (i : Nat) (hi : ¬ ∃ p ∈ D, p.1 = i) : Lst (listed.setIfInBounds i true) D (lst.setIfInBounds i true) where
  size := by simp [h.size]
  on := fun j d hj hlt => by
    have hij : i ≠ j := fun e => hi (e ▸ hj)
    rw [getD_set_ne d hij]
    exact h.on j d hj (by simpa using hlt)
  off := fun j d hj => by
    by_cases hij : i = j
    · subst hij
      rcases Nat.lt_or_ge i listed.size with h1 | h1
      · rw [getD_set_eq h1, getD_set_eq (h.size ▸ h1)]
      · rw [getD_ge (listed := lst.setIfInBounds i true) (by rw [Array.size_setIfInBounds, h.size]; exact h1), getD_ge (listed := listed.setIfInBounds i true) (by simpa using h1)]
    · rw [getD_set_ne d hij, getD_set_ne d hij]; exact h.off j d hj

/-- One of those that came up early comes up here, too. -/
theorem Lst.adopt {listed : Array Bool} {D D' : List (Nat × Nat)} {lst : Array Bool} {i b : Nat} (h : Lst listed D lst) (hD : ∀ p, p ∈ D ↔ p = (i, b) ∨ p ∈ D') (hi : i < listed.size) (hn : ¬ ∃ p ∈ D', p.1 = i) : Lst (listed.setIfInBounds i true) D' lst where
  size := by simp [h.size]
  on := fun j d hj hlt => h.on j d (by obtain ⟨p, hp, e⟩ := hj; exact ⟨p, (hD p).2 (.inr hp), e⟩) (by simpa using hlt)
  off := fun j d hj => by
    by_cases hij : i = j
    · subst hij; rw [getD_set_eq hi]; exact h.on i d ⟨(i, b), (hD _).2 (.inl rfl), rfl⟩ hi
    · rw [getD_set_ne d hij]
      refine h.off j d fun ⟨p, hp, e⟩ => ?_
      rcases (hD p).1 hp with rfl | hp
      · exact hij e
      · exact hj ⟨p, hp, e⟩

theorem Lst.ready {ops : Array Oper} {md : Region.Mode} {listed : Array Bool} {D : List (Nat × Nat)} {lst : Array Bool} (h : Lst listed D lst) {i : Nat} (hi : i ∈ Region.ready md ops listed) (hn : ¬ ∃ p ∈ D, p.1 = i) : i ∈ Region.ready md ops lst := by
  obtain ⟨h1, o, h2, h3⟩ := mem_ready.1 hi
  refine mem_ready.2 ⟨by rw [h.off i _ hn]; exact h1, o, h2, fun e he hb => ?_⟩
  have h4 := h3 e he hb
  by_cases hD : ∃ p ∈ D, p.1 = e.on
  · refine h.on _ _ hD ?_
    rcases Nat.lt_or_ge e.on listed.size with h5 | h5
    · exact h5
    · rw [getD_ge h5] at h4; cases h4
  · rw [h.off _ _ hD]; exact h4

theorem setAll_size : ∀ (A : List (Nat × Nat)) (listed : Array Bool), (setAll listed A).size = listed.size
  | [], _ => rfl
  | p :: A, listed => by rw [setAll, setAll_size A]; simp

theorem setAll_keep : ∀ (A : List (Nat × Nat)) (listed : Array Bool) (j : Nat) (d : Bool), listed.getD j d = true → j < listed.size → (setAll listed A).getD j d = true
  | [], _, _, _, h, _ => h
  | p :: A, listed, j, d, h, hj => by
    rw [setAll]
    refine setAll_keep A _ j d ?_ (by simpa using hj)
    by_cases hpj : p.1 = j
    · subst hpj; exact getD_set_eq hj
    · rw [getD_set_ne d hpj]; exact h

theorem setAll_on : ∀ (A : List (Nat × Nat)) (listed : Array Bool) (j : Nat) (d : Bool), (∃ p ∈ A, p.1 = j) → j < listed.size → (setAll listed A).getD j d = true
  | [], _, _, _, h, _ => by obtain ⟨p, hp, _⟩ := h; cases hp
  | q :: A, listed, j, d, h, hj => by
    rw [setAll]
    obtain ⟨p, hp, e⟩ := h
    simp only [List.mem_cons] at hp
    rcases hp with rfl | hp
    · subst e; exact setAll_keep A _ _ d (getD_set_eq hj) (by simpa using hj)
    · exact setAll_on A _ j d ⟨p, hp, e⟩ (by simpa using hj)

theorem setAll_off : ∀ (A : List (Nat × Nat)) (listed : Array Bool) (j : Nat) (d : Bool), (¬ ∃ p ∈ A, p.1 = j) → (setAll listed A).getD j d = listed.getD j d
  | [], _, _, _, _ => rfl
  | q :: A, listed, j, d, h => by
    rw [setAll, setAll_off A _ j d fun ⟨p, hp, e⟩ => h ⟨p, by simp [hp], e⟩]
    exact getD_set_ne d fun e => h ⟨q, by simp, e⟩

/-- What may come up beside what came up early. -/
theorem Lst.ready_inv {ops : Array Oper} {md : Region.Mode} {listed : Array Bool} {D A : List (Nat × Nat)} {lst : Array Bool} (h : Lst listed D lst) (hDA : ∀ p ∈ D, ∃ q ∈ A, q.1 = p.1) (hA : ∀ q ∈ A, q.1 ∈ Region.ready md ops listed)
    {j : Nat} (hj : j ∈ Region.ready md ops lst) : (¬ ∃ p ∈ D, p.1 = j) ∧ ((∃ q ∈ A, q.1 = j) ∨ j ∈ Region.ready md ops (setAll listed A)) := by
  obtain ⟨h1, o, h2, h3⟩ := mem_ready.1 hj
  have hlt : j < listed.size := h.size ▸ lt_of_unlisted h1
  have hD : ¬ ∃ p ∈ D, p.1 = j := fun hp => by rw [h.on j _ hp hlt] at h1; cases h1
  refine ⟨hD, ?_⟩
  by_cases hjA : ∃ q ∈ A, q.1 = j
  · exact .inl hjA
  · refine .inr (mem_ready.2 ⟨by rw [setAll_off _ _ _ _ hjA, ← h.off j _ hD]; exact h1, o, h2, fun e he hb => ?_⟩)
    have h4 := h3 e he hb
    have hlt' : e.on < listed.size := by
      rcases Nat.lt_or_ge e.on listed.size with h5 | h5
      · exact h5
      · rw [getD_ge (h.size ▸ h5)] at h4; cases h4
    by_cases he' : ∃ p ∈ D, p.1 = e.on
    · obtain ⟨p, hp, e1⟩ := he'
      obtain ⟨q, hq, e2⟩ := hDA p hp
      exact setAll_on _ _ _ _ ⟨q, hq, e2.trans e1⟩ hlt'
    · rw [h.off _ _ he'] at h4
      exact setAll_keep _ _ _ _ h4 hlt'

def unl (ops : Array Oper) (lst : Array Bool) : Nat := (List.range ops.size).countP fun j => !lst.getD j true

theorem countP_less {p q : Nat → Bool} : ∀ {l : List Nat} {i : Nat}, (∀ j, q j = true → p j = true) → i ∈ l → p i = true → q i = false → l.countP q + 1 ≤ l.countP p
  | [], i, _, hi, _, _ => by cases hi
  | a :: l, i, h, hi, h1, h2 => by
    have hm : l.countP q ≤ l.countP p := List.countP_mono_left fun j _ => h j
    simp only [List.countP_cons]
    simp only [List.mem_cons] at hi
    rcases hi with rfl | hi
    · simp [h1, h2]; omega
    · have := countP_less h hi h1 h2
      by_cases hq : q a = true
      · simp [hq, h a hq]; omega
      · simp [hq]; split <;> omega

theorem unl_set {ops : Array Oper} {lst : Array Bool} {i : Nat} (hi : i < ops.size) (h : lst.getD i true = false) : unl ops (lst.setIfInBounds i true) + 1 ≤ unl ops lst := by
  unfold unl
  refine countP_less (i := i) (fun j hj => ?_) (List.mem_range.2 hi) (by rw [h]; rfl) (by rw [getD_set_eq (lt_of_unlisted h)]; rfl)
  by_cases hij : i = j
  · subst hij; rw [getD_set_eq (lt_of_unlisted h)] at hj; cases hj
  · rw [getD_set_ne true hij] at hj; exact hj

end
end Go.VE
