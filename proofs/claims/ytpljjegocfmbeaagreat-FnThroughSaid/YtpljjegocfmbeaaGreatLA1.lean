/- The plain laws behind FnThrough: how the native programs answer. -/
import Derived.Test.YtpljjegocfmbeaaGreatQN
import Derived.Test.YtpljjegocfmbeaaGreatX2
import Derived.Laws.Strings
namespace Go.VE
set_option linter.unusedVariables false
/-- It answers, with a value of this sort. -/
def An {β : Type} (m : (β → Option Res) → Option Res) (Q : β → Prop) : Prop := ∃ z, Q z ∧ ∀ k, m k = k z
section
variable {α β γ δ : Type} {Q : β → Prop}
theorem An.ret {y : β} (h : Q y) : An (fun k => k y) Q := ⟨y, h, fun _ => rfl⟩
theorem An.bif {c : Bool} {F G : (β → Option Res) → Option Res} (hF : c = true → An F Q) (hG : c = false → An G Q) : An (fun k => bif c then F k else G k) Q := by
  cases c
  · exact hG rfl
  · exact hF rfl
theorem An.nt {c : Bool} {F G : (β → Option Res) → Option Res} (hF : c = false → An F Q) (hG : c = true → An G Q) : An (fun k => bif !c then F k else G k) Q := by
  cases c
  · exact hF rfl
  · exact hG rfl
theorem An.dec {p : Prop} [Decidable p] {F G : (β → Option Res) → Option Res} (hF : p → An F Q) (hG : ¬p → An G Q) : An (fun k => bif decide p then F k else G k) Q :=
  An.bif (fun h => hF (of_decide_eq_true h)) (fun h => hG (of_decide_eq_false h))
theorem An.beq {a b : Int} {F G : (β → Option Res) → Option Res} (hF : a = b → An F Q) (hG : a ≠ b → An G Q) : An (fun k => bif a == b then F k else G k) Q :=
  An.bif (fun h => hF (eq_of_beq h)) (fun h => hG (fun e => by subst e; simp at h))
theorem An.bne {a b : Int} {F G : (β → Option Res) → Option Res} (hF : a ≠ b → An F Q) (hG : a = b → An G Q) : An (fun k => bif a != b then F k else G k) Q :=
  An.bif (fun h => hF (by simpa using h)) (fun h => hG (by simpa using h))
theorem An.ite {c : Prop} [Decidable c] {F : (β → Option Res) → Option Res} (hc : c) (hF : An F Q) : An (fun k => if c then F k else none) Q := by
  simpa only [if_pos hc] using hF
theorem An.itn {c : Prop} [Decidable c] {F : (β → Option Res) → Option Res} (hc : ¬c) (hF : An F Q) : An (fun k => if c then none else F k) Q := by
  simpa only [if_neg hc] using hF
theorem An.bind {P : γ → Prop} {F : (γ → Option Res) → Option Res} {H : γ → (β → Option Res) → Option Res} (hF : An F P) (hH : ∀ v, P v → An (H v) Q) : An (fun k => F fun v => H v k) Q := by
  obtain ⟨v, h1, h2⟩ := hF
  obtain ⟨z, h3, h4⟩ := hH v h1
  exact ⟨z, h3, fun k => (h2 _).trans (h4 k)⟩
theorem An.bind2 {P : γ → Prop} {P' : δ → Prop} {F : (γ ⊕ δ → Option Res) → Option Res} {H : γ → (β → Option Res) → Option Res} {H' : δ → (β → Option Res) → Option Res} (hF : An F (Sum.elim P P')) (hH : ∀ v, P v → An (H v) Q) (hH' : ∀ v, P' v → An (H' v) Q) :
    An (fun k => F (Sum.elim (fun v => H v k) fun v => H' v k)) Q := by
  obtain ⟨v, h1, h2⟩ := hF
  cases v with
  | inl v => obtain ⟨z, h3, h4⟩ := hH v h1; exact ⟨z, h3, fun k => (h2 _).trans (h4 k)⟩
  | inr v => obtain ⟨z, h3, h4⟩ := hH' v h1; exact ⟨z, h3, fun k => (h2 _).trans (h4 k)⟩
theorem An.mono {P : β → Prop} {F : (β → Option Res) → Option Res} (hF : An F P) (h : ∀ v, P v → Q v) : An F Q := by
  obtain ⟨v, h1, h2⟩ := hF
  exact ⟨v, h v h1, h2⟩
theorem An.fn {f : α → (β → Option Res) → Option Res} {p : ∀ x, ParC (f x)} {x : α} (h : An (f x) Q) : An ((fn f p).f x) Q := by rw [fn_f]; exact h
theorem An.lb {f : α → γ → (β → Option Res) → Option Res} {p : ∀ u x, ParC (f u x)} {u : α} {x : γ} (h : An (f u x) Q) : An ((lb f p).f u x) Q := h
/-- A loop that keeps I; n: more rounds than it takes. -/
theorem An.loop {b : LB α γ (γ ⊕ β)} {u : α} {x : γ} (n : Nat) (I : Nat → γ → Prop) (hn : n < 18446744073709551616) (h0 : I 0 x)
    (hs : ∀ i y, I i y → An (b.f u y) (Sum.elim (fun z => i < n ∧ I (i + 1) z) Q)) : An (lpK b u x) Q := by
  have key : ∀ (m i fuel : Nat) (y : γ), I i y → n ≤ i + m → m < fuel → An (loopK (b.f u) fuel y) Q := by
    intro m
    induction m with
    | zero =>
      intro i fuel y hy hm hf
      cases fuel with
      | zero => omega
      | succ f =>
        obtain ⟨z, h1, h2⟩ := hs i y hy
        cases z with
        | inl z => exact absurd h1.1 (by omega)
        | inr z => exact ⟨z, h1, fun k => h2 _⟩
    | succ m ih =>
      intro i fuel y hy hm hf
      cases fuel with
      | zero => omega
      | succ f =>
        obtain ⟨z, h1, h2⟩ := hs i y hy
        cases z with
        | inl z =>
          obtain ⟨w, h3, h4⟩ := ih (i + 1) f z h1.2 (by omega) (by omega)
          exact ⟨w, h3, fun k => (h2 _).trans (h4 k)⟩
        | inr z => exact ⟨z, h1, fun k => h2 _⟩
  exact key n 0 Fuel x h0 (by omega) (Nat.lt_of_lt_of_le hn fuel_big)
end
theorem W_eq {x : Int} (h1 : -9223372036854775808 ≤ x) (h2 : x < 9223372036854775808) : W x = x := by
  unfold W IntKind.wrap
  simp only [IntKind.bits, IntKind.signed]
  have e : (2 : Int) ^ 64 = 18446744073709551616 := by decide
  have e3 : (2 : Int) ^ 63 = 9223372036854775808 := by decide
  simp [e, e3]
  omega
theorem rd_get {α : Type} (d : α) (xs : List α) (i : Nat) (hi : i < xs.length) : rd d xs (i : Int) = xs[i] := by
  simp [rd, hi]
theorem rd_mem {α : Type} (d : α) (xs : List α) {i : Int} (h : 0 ≤ i ∧ i < (xs.length : Int)) : rd d xs i ∈ xs := by
  unfold rd
  have hi : i.toNat < xs.length := by omega
  simp [List.getD, hi]
theorem getD_mem {α : Type} (d : α) (xs : List α) {i : Nat} (h : i < xs.length) : xs.getD i d ∈ xs := by
  simp [List.getD, h]
theorem strEq_iff {x y : ByteArray} : strEq x y = true ↔ x = y := by
  rw [strEq_eq, beq_iff_eq, ByteArray.toList_eq, ByteArray.toList_eq]
  constructor
  · intro h
    cases x; cases y
    simp only at h
    rw [Array.ext' h]
  · rintro rfl; rfl
theorem strEq_refl (s : ByteArray) : strEq s s = true := strEq_iff.2 rfl
theorem strEq_beq (x y : ByteArray) : strEq x y = decide (x = y) := by
  rw [Bool.eq_iff_iff, strEq_iff, decide_eq_true_eq]
theorem eqB_refl : ∀ (T : Ty) (x : T.D), T.flat = true → T.eqB x x = true
  | .int _, x, _ => by simp [Ty.eqB]
  | .bool, x, _ => by simp [Ty.eqB]
  | .str, x, _ => by simp [Ty.eqB, strEq_refl]
  | .pair a b, x, h => by
    simp only [Ty.flat, Bool.and_eq_true] at h
    simp [Ty.eqB, eqB_refl a x.1 h.1, eqB_refl b x.2 h.2]
  | .slice _, _, h => by simp [Ty.flat] at h
theorem bLess_irrefl : ∀ x : List UInt8, Op.bytesLess x x = false
  | [] => rfl
  | a :: l => by
    simp only [Op.bytesLess, bLess_irrefl l, Bool.and_false, Bool.or_false, decide_eq_false_iff_not]
    exact UInt8.lt_irrefl a
theorem bLess_trans : ∀ x y z : List UInt8, Op.bytesLess x y = true → Op.bytesLess y z = true → Op.bytesLess x z = true
  | _, _, [], _, h => by cases ‹List UInt8› <;> simp [Op.bytesLess] at h
  | [], _, _ :: _, _, _ => rfl
  | a :: x, [], c :: z, h, _ => by simp [Op.bytesLess] at h
  | a :: x, b :: y, c :: z, h1, h2 => by
    simp only [Op.bytesLess, Bool.or_eq_true, decide_eq_true_eq, Bool.and_eq_true, beq_iff_eq] at h1 h2 ⊢
    rcases h1 with h1 | ⟨rfl, h1⟩
    · rcases h2 with h2 | ⟨rfl, h2⟩
      · exact .inl (UInt8.lt_trans h1 h2)
      · exact .inl h1
    · rcases h2 with h2 | ⟨rfl, h2⟩
      · exact .inl h2
      · exact .inr ⟨rfl, bLess_trans x y z h1 h2⟩
theorem bLess_tri : ∀ x y : List UInt8, Op.bytesLess x y = true ∨ x = y ∨ Op.bytesLess y x = true
  | [], [] => .inr (.inl rfl)
  | [], _ :: _ => .inl rfl
  | _ :: _, [] => .inr (.inr rfl)
  | a :: x, b :: y => by
    simp only [Op.bytesLess, Bool.or_eq_true, decide_eq_true_eq, Bool.and_eq_true, beq_iff_eq, List.cons.injEq]
    have ht : a < b ∨ a = b ∨ b < a := by
      rcases Nat.lt_trichotomy a.toNat b.toNat with h | h | h
      · exact .inl (UInt8.lt_iff_toNat_lt.2 h)
      · exact .inr (.inl (UInt8.toNat_inj.1 h))
      · exact .inr (.inr (UInt8.lt_iff_toNat_lt.2 h))
    rcases ht with h | h | h
    · exact .inl (.inl h)
    · subst h
      rcases bLess_tri x y with h | h | h
      · exact .inl (.inr ⟨rfl, h⟩)
      · exact .inr (.inl ⟨rfl, h⟩)
      · exact .inr (.inr (.inr ⟨rfl, h⟩))
    · exact .inr (.inr (.inl h))
theorem strLess_irrefl (x : ByteArray) : strLess x x = false := by rw [strLess_eq]; exact bLess_irrefl _
theorem strLess_trans {x y z : ByteArray} (h1 : strLess x y = true) (h2 : strLess y z = true) : strLess x z = true := by
  rw [strLess_eq] at *; exact bLess_trans _ _ _ h1 h2
theorem strLess_asymm {x y : ByteArray} (h : strLess x y = true) : strLess y x = false := by
  cases h2 : strLess y x with
  | false => rfl
  | true => have := strLess_trans h h2; rw [strLess_irrefl] at this; cases this
theorem strLess_ne {x y : ByteArray} (h : strLess x y = true) : strEq x y = false := by
  cases h2 : strEq x y with
  | false => rfl
  | true => rw [strEq_iff] at h2; subst h2; rw [strLess_irrefl] at h; cases h
theorem strLess_tri (x y : ByteArray) : strLess x y = true ∨ x = y ∨ strLess y x = true := by
  rw [strLess_eq, strLess_eq]
  rcases bLess_tri x.toList y.toList with h | h | h
  · exact .inl h
  · refine .inr (.inl ?_)
    rw [← strEq_iff, strEq_eq, h]; simp
  · exact .inr (.inr h)
theorem strLess_not {x y : ByteArray} (h1 : strLess x y = false) (h2 : strEq x y = false) : strLess y x = true := by
  rcases strLess_tri x y with h | h | h
  · rw [h1] at h; cases h
  · rw [← strEq_iff, h2] at h; cases h
  · exact h
end Go.VE
namespace Go.VE
set_option linter.unusedVariables false
set_option linter.unusedSimpArgs false
theorem maxLen_eq : maxLen = 4294967296 := rfl
theorem mL_eq : mL = 4294967296 := rfl
/-- Texts and lists in it are not long. -/
def Sm : (T : Ty) → T.D → Prop
  | .int _, _ => True
  | .bool, _ => True
  | .str, s => s.size ≤ 1000000
  | .pair a b, x => Sm a x.1 ∧ Sm b x.2
  | .slice e, xs => xs.length ≤ 1000000 ∧ ∀ x ∈ xs, Sm e x
theorem smRange {x : dRange} : Sm tRange x ↔ x.1.size ≤ 1000000 ∧ x.2.size ≤ 1000000 := Iff.rfl
theorem smWrite {x : dWrite} : Sm tWrite x ↔ x.1.size ≤ 1000000 ∧ x.2.1.size ≤ 1000000 := by simp [Sm, tWrite]
theorem smVersion {x : dVersion} : Sm tVersion x ↔ x.1.size ≤ 1000000 ∧ x.2.1.size ≤ 1000000 := by simp [Sm, tVersion]
theorem smTxn {x : dTxn} : Sm tTxn x ↔ (x.2.2.2.2.1.length ≤ 1000000 ∧ ∀ r ∈ x.2.2.2.2.1, Sm tRange r) ∧ (x.2.2.2.2.2.1.length ≤ 1000000 ∧ ∀ w ∈ x.2.2.2.2.2.1, Sm tWrite w) ∧ x.2.2.2.2.2.2.2.size ≤ 1000000 := by
  simp [Sm, tTxn]
theorem smBase {x : dBase} : Sm tBase x ↔ (x.1.length ≤ 1000000 ∧ ∀ v ∈ x.1, Sm tVersion v) ∧ (x.2.1.length ≤ 1000000 ∧ ∀ t ∈ x.2.1, Sm tTxn t) ∧ (x.2.2.1.length ≤ 1000000 ∧ ∀ t ∈ x.2.2.1, Sm tTxn t) := by
  simp [Sm, tBase]
theorem smEngine {x : dEngine} : Sm tEngine x ↔ Sm tBase x.1 ∧ x.2.length ≤ 1000000 ∧ ∀ t ∈ x.2, Sm tTxn t := by simp [Sm, tEngine]
theorem smRecord {x : dRecord} : Sm tRecord x ↔ Sm tTxn x.2.1 ∧ x.2.2.1.size ≤ 1000000 ∧ Sm tBase x.2.2.2.2 := by simp [Sm, tRecord]
theorem wsucc {i : Nat} (h : i < 9223372036854775807) : W ((i : Int) + 1) = ((i + 1 : Nat) : Int) := by rw [W_eq (by omega) (by omega)]; push_cast; rfl
theorem wpred {i : Nat} (h : i < 9223372036854775807) (h0 : 0 < i) : W ((i : Int) - 1) = ((i - 1 : Nat) : Int) := by rw [W_eq (by omega) (by omega)]; omega
/-- All of a list pass; the first end: one does not. -/
theorem An.all {α : Type} {b : LB α Int (Int ⊕ (Int ⊕ Int))} {u : α} {n : Nat} (hn : n < 9223372036854775807) (G : Nat → Prop)
    (hs : ∀ i, i < n → An (b.f u (i : Int)) (Sum.elim (fun z => z = W ((i : Int) + 1) ∧ G i) (Sum.elim (fun _ => ¬ G i) fun _ => False)))
    (he : An (b.f u (n : Int)) (Sum.elim (fun _ => False) (Sum.elim (fun _ => False) fun _ => True))) :
    An (lpK b u 0) (Sum.elim (fun _ => ¬ ∀ i, i < n → G i) fun _ => ∀ i, i < n → G i) := by
  refine An.loop (n + 1) (fun i x => x = (i : Int) ∧ i ≤ n ∧ ∀ j, j < i → G j) (by omega) ⟨rfl, by omega, fun j hj => by omega⟩ ?_
  rintro i y ⟨rfl, h1, h2⟩
  by_cases hi : i < n
  · refine (hs i hi).mono fun v hv => ?_
    rcases v with v | v | v
    · obtain ⟨rfl, hg⟩ := hv
      refine ⟨by omega, wsucc (by omega), by omega, fun j hj => ?_⟩
      by_cases e : j = i
      · subst e; exact hg
      · exact h2 j (by omega)
    · exact fun h => hv (h i hi)
    · exact hv.elim
  · have : i = n := by omega
    subst this
    refine he.mono fun v hv => ?_
    rcases v with v | v | v
    · exact hv.elim
    · exact hv.elim
    · exact h2
/-- The same; the ends stand the other way round. -/
theorem An.all' {α : Type} {b : LB α Int (Int ⊕ (Int ⊕ Int))} {u : α} {n : Nat} (hn : n < 9223372036854775807) (G : Nat → Prop)
    (hs : ∀ i, i < n → An (b.f u (i : Int)) (Sum.elim (fun z => z = W ((i : Int) + 1) ∧ G i) (Sum.elim (fun _ => False) fun _ => ¬ G i)))
    (he : An (b.f u (n : Int)) (Sum.elim (fun _ => False) (Sum.elim (fun _ => True) fun _ => False))) :
    An (lpK b u 0) (Sum.elim (fun _ => ∀ i, i < n → G i) fun _ => ¬ ∀ i, i < n → G i) := by
  refine An.loop (n + 1) (fun i x => x = (i : Int) ∧ i ≤ n ∧ ∀ j, j < i → G j) (by omega) ⟨rfl, by omega, fun j hj => by omega⟩ ?_
  rintro i y ⟨rfl, h1, h2⟩
  by_cases hi : i < n
  · refine (hs i hi).mono fun v hv => ?_
    rcases v with v | v | v
    · obtain ⟨rfl, hg⟩ := hv
      refine ⟨by omega, wsucc (by omega), by omega, fun j hj => ?_⟩
      by_cases e : j = i
      · subst e; exact hg
      · exact h2 j (by omega)
    · exact hv.elim
    · exact fun h => hv (h i hi)
  · have : i = n := by omega
    subst this
    refine he.mono fun v hv => ?_
    rcases v with v | v | v
    · exact hv.elim
    · exact h2
    · exact hv.elim
theorem forall_mem_get {α : Type} {p : α → Prop} {xs : List α} : (∀ i (h : i < xs.length), p xs[i]) ↔ ∀ x ∈ xs, p x := by
  constructor
  · intro h x hx
    obtain ⟨i, hi, rfl⟩ := List.getElem_of_mem hx
    exact h i hi
  · intro h i hi
    exact h _ (List.getElem_mem hi)
end Go.VE
namespace Go.VE
set_option linter.unusedVariables false
set_option linter.unusedSimpArgs false
theorem l01In_a (a b c : Int) : An (spec_l01In_k (a, b, c)) (fun z => z = true ↔ b ≤ a ∧ a ≤ c) := by
  refine An.fn (An.dec (fun h => An.ret ?_) fun h => An.ret ?_)
  · simp only [decide_eq_true_eq]; exact ⟨fun h2 => ⟨h, h2⟩, fun h2 => h2.2⟩
  · exact ⟨fun h2 => by simp at h2, fun h2 => absurd h2.1 h⟩
def KOk (s : ByteArray) : Prop := (1 ≤ s.size ∧ s.size ≤ 3) ∧ ∀ i, i < s.size → 97 ≤ bt s (i : Int) ∧ bt s (i : Int) ≤ 122
theorem KeyOk_a {s : ByteArray} (hs : s.size ≤ 1000000) : An (spec_KeyOk_k s) (fun z => z = true ↔ KOk s) := by
  refine An.fn (An.bind2 (An.all (n := s.size) (by omega) (fun i => 97 ≤ bt s (i : Int) ∧ bt s (i : Int) ≤ 122) (fun i hi => ?_) ?_) (fun _ hv => An.ret ?_) fun _ hv => ?_)
  · refine An.lb (An.dec (fun _ => An.ite (by omega) (An.dec (fun h => An.ret ?_) fun _ => An.ite (by omega) (An.dec (fun h => An.ret ?_) fun _ => An.ret ?_))) fun h => absurd hi (by omega))
    · exact fun h2 => by omega
    · exact fun h2 => by omega
    · exact ⟨rfl, by omega, by omega⟩
  · exact An.lb (An.dec (fun h => absurd h (by omega)) fun _ => An.ret trivial)
  · exact ⟨nofun, fun h => absurd h.2 hv⟩
  · exact An.bind (l01In_a _ _ _) fun y hy => An.ret (by rw [hy]; exact ⟨fun h => ⟨by omega, hv⟩, fun h => by have := h.1; omega⟩)
def WOk (w : dWrite) : Prop := KOk w.1 ∧ w.2.1.size ≤ 12 ∧ (w.2.2 = true → w.2.1 = ⟨#[]⟩)
theorem WriteOk_a {w : dWrite} (hs : Sm tWrite w) : An (spec_WriteOk_k w) (fun z => z = true ↔ WOk w) := by
  rw [smWrite] at hs
  refine An.fn (An.bind (KeyOk_a hs.1) fun y hy => An.bif (fun h => An.dec (fun h2 => An.nt (fun h3 => An.ret ?_) fun h3 => An.ret ?_) fun h2 => An.ret ?_) fun h => An.ret ?_)
  · exact ⟨fun _ => ⟨hy.1 h, by omega, fun h4 => by rw [h3] at h4; cases h4⟩, fun _ => rfl⟩
  · rw [strEq_iff]; exact ⟨fun h4 => ⟨hy.1 h, by omega, fun _ => h4⟩, fun h4 => h4.2.2 h3⟩
  · exact ⟨nofun, fun h4 => by have := h4.2.1; omega⟩
  · exact ⟨nofun, fun h4 => by rw [hy.2 h4.1] at h; cases h⟩
/-- Each is below the next one. -/
def Asc {α : Type} (r : α → α → Prop) (l : List α) : Prop := ∀ i (h : i + 1 < l.length), r (l[i]'(by omega)) l[i + 1]
def WsOk (l : List dWrite) : Prop := (∀ w ∈ l, WOk w) ∧ Asc (fun a b => strLess a.1 b.1 = true) l ∧ l.length ≤ 8
/-- All pass, and each is below the next: told place by place. -/
theorem asc_all {α : Type} {p : α → Prop} {r : α → α → Prop} {l : List α} : (∀ i, i < l.length → ∀ (h : i < l.length), p l[i] ∧ ∀ (h0 : 0 < i), r (l[i - 1]'(by omega)) l[i]) ↔ (∀ x ∈ l, p x) ∧ Asc r l := by
  constructor
  · intro h
    refine ⟨fun x hx => ?_, fun i hi => ?_⟩
    · obtain ⟨i, hi, rfl⟩ := List.getElem_of_mem hx
      exact (h i hi hi).1
    · exact (h (i + 1) hi hi).2 (by omega)
  · rintro ⟨h1, h2⟩ i hi h
    refine ⟨h1 _ (List.getElem_mem h), fun h0 => ?_⟩
    have := h2 (i - 1) (by omega)
    simpa only [show i - 1 + 1 = i by omega] using this
theorem WritesOk_a {l : List dWrite} (hl : l.length ≤ 1000000) (hs : ∀ w ∈ l, Sm tWrite w) : An (spec_WritesOk_k l) (fun z => z = true ↔ WsOk l) := by
  refine An.fn (An.bind2 (An.all (n := l.length) (by omega) (fun i => ∀ (h : i < l.length), WOk l[i] ∧ ∀ (h0 : 0 < i), strLess (l[i - 1]'(by omega)).1 l[i].1 = true) (fun i hi => ?_) ?_) (fun _ hv => An.ret ?_) fun _ hv => An.ret ?_)
  · refine An.lb (An.dec (fun _ => An.ite (by omega) ?_) fun h => absurd hi (by omega))
    rw [rd_get _ _ _ hi]
    refine An.bind (WriteOk_a (hs _ (List.getElem_mem hi))) fun y hy => An.nt (fun h => An.ret ?_) fun h => An.dec (fun h0 => ?_) fun h0 => An.ret ?_
    · exact fun h2 => by rw [hy.2 (h2 hi).1] at h; cases h
    · rw [wpred (by omega) (by omega), rd_get _ _ _ (by omega)]
      refine An.ite (by omega) (An.ite (by omega) (An.nt (fun h1 => An.ret ?_) fun h1 => An.ret ?_))
      · exact fun h2 => by rw [(h2 hi).2 (by omega)] at h1; cases h1
      · exact ⟨rfl, fun _ => ⟨hy.1 h, fun _ => h1⟩⟩
    · exact ⟨rfl, fun _ => ⟨hy.1 h, fun h2 => absurd h2 (by omega)⟩⟩
  · exact An.lb (An.dec (fun h => absurd h (by omega)) fun _ => An.ret trivial)
  · exact ⟨nofun, fun h => absurd (asc_all.2 ⟨h.1, h.2.1⟩) hv⟩
  · rw [decide_eq_true_eq]
    have := (asc_all (p := WOk) (r := fun a b : dWrite => strLess a.1 b.1 = true)).1 hv
    exact ⟨fun h => ⟨this.1, this.2, by omega⟩, fun h => by have := h.2.2; omega⟩
def ROk (r : dRange) : Prop := KOk r.1 ∧ KOk r.2 ∧ (strLess r.1 r.2 || strEq r.1 r.2) = true
theorem RangeOk_a {r : dRange} (hs : Sm tRange r) : An (spec_RangeOk_k r) (fun z => z = true ↔ ROk r) := by
  refine An.fn (An.bind (KeyOk_a hs.1) fun y hy => An.bif (fun h => An.bind (KeyOk_a hs.2) fun y2 hy2 => An.bif (fun h2 => An.ret ?_) fun h2 => An.ret ?_) fun h => An.ret ?_)
  · exact ⟨fun h3 => ⟨hy.1 h, hy2.1 h2, h3⟩, fun h3 => h3.2.2⟩
  · exact ⟨nofun, fun h4 => by rw [hy2.2 h4.2.1] at h2; cases h2⟩
  · exact ⟨nofun, fun h4 => by rw [hy.2 h4.1] at h; cases h⟩
def TOk (t : dTxn) : Prop := (1 ≤ t.1 ∧ t.1 ≤ 9999) ∧ (1 ≤ t.2.1 ∧ t.2.1 ≤ 3) ∧ (0 ≤ t.2.2.1 ∧ t.2.2.1 ≤ 9999) ∧ t.2.2.2.2.1.length ≤ 8 ∧ WsOk t.2.2.2.2.2.1 ∧ (∀ r ∈ t.2.2.2.2.1, ROk r) ∧
  (t.2.1 = 3 → t.2.2.1 + 1 ≤ t.2.2.2.1 ∧ t.2.2.2.1 ≤ 9999) ∧ (t.2.1 ≠ 3 → t.2.2.2.1 = 0) ∧ (t.2.1 = 2 → KOk t.2.2.2.2.2.2.2) ∧ (t.2.1 ≠ 2 → t.2.2.2.2.2.2.2 = ⟨#[]⟩) ∧ (t.2.1 = 1 → t.2.2.2.2.2.2.1 = false)
theorem TxnOk_10 {t : dTxn} (hs : Sm tTxn t) : An (spec_TxnOk_j5000010 t ()) (fun z => z = true ↔ (t.2.1 = 2 → KOk t.2.2.2.2.2.2.2) ∧ (t.2.1 ≠ 2 → t.2.2.2.2.2.2.2 = ⟨#[]⟩) ∧ (t.2.1 = 1 → t.2.2.2.2.2.2.1 = false)) := by
  rw [smTxn] at hs
  refine An.lb (An.beq (fun h => An.bind (KeyOk_a hs.2.2) fun y hy => An.nt (fun h1 => An.ret ?_) fun h1 => An.bne (fun h2 => absurd h h2) fun _ => An.bne (fun h2 => An.ret ?_) fun h2 => absurd h2 (by omega)) fun h => An.bne (fun _ => An.nt (fun h1 => An.ret ?_) fun h1 => An.bne (fun h2 => An.ret ?_) fun h2 => An.ret ?_) fun h1 => absurd h1 h)
  · exact ⟨nofun, fun h3 => by rw [hy.2 (h3.1 h)] at h1; cases h1⟩
  · exact ⟨fun _ => ⟨fun _ => hy.1 h1, fun h3 => absurd h h3, fun h3 => absurd h3 h2⟩, fun _ => rfl⟩
  · exact ⟨nofun, fun h3 => by rw [strEq_iff.2 (h3.2.1 h)] at h1; cases h1⟩
  · exact ⟨fun _ => ⟨fun h3 => absurd h3 h, fun _ => strEq_iff.1 h1, fun h3 => absurd h3 h2⟩, fun _ => rfl⟩
  · refine ⟨fun h4 => ⟨fun h3 => absurd h3 h, fun _ => strEq_iff.1 h1, fun h3 => by simpa using h4⟩, fun h4 => by simpa using h4.2.2 h2⟩
theorem TxnOk_a {t : dTxn} (hs : Sm tTxn t) : An (spec_TxnOk_k t) (fun z => z = true ↔ TOk t) := by
  have hs' := smTxn.1 hs
  refine An.fn (An.bind (l01In_a _ _ _) fun y1 g1 => An.nt (fun h1 => An.ret ⟨nofun, fun h => by rw [g1.2 h.1] at h1; cases h1⟩) fun h1 =>
    An.bind (l01In_a _ _ _) fun y2 g2 => An.nt (fun h2 => An.ret ⟨nofun, fun h => by rw [g2.2 h.2.1] at h2; cases h2⟩) fun h2 =>
    An.bind (l01In_a _ _ _) fun y3 g3 => An.nt (fun h3 => An.ret ⟨nofun, fun h => by rw [g3.2 h.2.2.1] at h3; cases h3⟩) fun h3 =>
    An.dec (fun h4 => An.ret ⟨nofun, fun h => by have := h.2.2.2.1; omega⟩) fun h4 =>
    An.bind (WritesOk_a hs'.2.1.1 hs'.2.1.2) fun y5 g5 => An.nt (fun h5 => An.ret ⟨nofun, fun h => by rw [g5.2 h.2.2.2.2.1] at h5; cases h5⟩) fun h5 =>
    An.bind2 (An.all (n := t.2.2.2.2.1.length) (by omega) (fun i => ∀ (h : i < t.2.2.2.2.1.length), ROk t.2.2.2.2.1[i]) (fun i hi => ?_) ?_) (fun _ hv => An.ret ⟨nofun, fun h => absurd (fun i _ hi => h.2.2.2.2.2.1 _ (List.getElem_mem hi)) hv⟩) fun _ hv => ?_)
  · refine An.lb (An.dec (fun _ => An.ite (by omega) ?_) fun h => absurd hi (by omega))
    rw [rd_get _ _ _ hi]
    exact An.bind (RangeOk_a (hs'.1.2 _ (List.getElem_mem hi))) fun y hy => An.nt (fun h => An.ret fun h2 => by rw [hy.2 (h2 hi)] at h; cases h) fun h => An.ret ⟨rfl, fun _ => hy.1 h⟩
  · exact An.lb (An.dec (fun h => absurd h (by omega)) fun _ => An.ret trivial)
  · have g6 : ∀ r ∈ t.2.2.2.2.1, ROk r := forall_mem_get.1 fun i hi => hv i hi hi
    have g3' := g3.1 h3
    have hw := W_eq (x := t.2.2.1 + 1) (by omega) (by omega)
    have key : ∀ (P : Prop), ((t.2.1 = 3 → t.2.2.1 + 1 ≤ t.2.2.2.1 ∧ t.2.2.2.1 ≤ 9999) ∧ (t.2.1 ≠ 3 → t.2.2.2.1 = 0)) → An (spec_TxnOk_j5000010 t ()) (fun z => z = true ↔ TOk t) := fun _ h => (TxnOk_10 hs).mono fun z hz =>
      hz.trans ⟨fun k => ⟨g1.1 h1, g2.1 h2, g3.1 h3, by omega, g5.1 h5, g6, h.1, h.2, k⟩, fun k => k.2.2.2.2.2.2.2.2⟩
    refine An.beq (fun h7 => An.bind (l01In_a _ _ _) fun y8 g8 => An.nt (fun h8 => An.ret ⟨nofun, fun h => ?_⟩) fun h8 => An.bne (fun h => absurd h7 h) fun _ => key True ?_) fun h7 => An.bne (fun _ => An.bne (fun h9 => An.ret ⟨nofun, fun h => absurd (h.2.2.2.2.2.2.2.1 h7) h9⟩) fun h9 => key True ?_) fun h => absurd h h7
    · have := h.2.2.2.2.2.2.1 h7
      rw [g8.2 (by rw [hw]; exact this)] at h8; cases h8
    · have := g8.1 h8
      rw [hw] at this
      exact ⟨fun _ => this, fun h => absurd h7 h⟩
    · exact ⟨fun h => absurd h h7, fun _ => h9⟩
end Go.VE
namespace Go.VE
set_option linter.unusedVariables false
set_option linter.unusedSimpArgs false
def VOk (v : dVersion) : Prop := KOk v.1 ∧ v.2.1.size ≤ 12 ∧ (v.2.2.1 = true → v.2.1 = ⟨#[]⟩) ∧ 1 ≤ v.2.2.2 ∧ v.2.2.2 ≤ 9999
def vLt (a b : dVersion) : Prop := strLess a.1 b.1 = true ∨ (a.1 = b.1 ∧ a.2.2.2 < b.2.2.2)
def VsOk (l : List dVersion) : Prop := (∀ v ∈ l, VOk v) ∧ Asc vLt l ∧ l.length ≤ 120
theorem VersionsOk_a {l : List dVersion} (hl : l.length ≤ 1000000) (hs : ∀ v ∈ l, Sm tVersion v) : An (spec_VersionsOk_k l) (fun z => z = true ↔ VsOk l) := by
  refine An.fn (An.bind2 (An.all (n := l.length) (by omega) (fun i => ∀ (h : i < l.length), VOk l[i] ∧ ∀ (h0 : 0 < i), vLt (l[i - 1]'(by omega)) l[i]) (fun i hi => ?_) ?_) (fun _ hv => An.ret ?_) fun _ hv => An.ret ?_)
  · refine An.lb (An.dec (fun _ => An.ite (by omega) ?_) fun h => absurd hi (by omega))
    rw [rd_get _ _ _ hi]
    have hm := hs _ (List.getElem_mem hi)
    rw [smVersion] at hm
    refine An.bind (KeyOk_a hm.1) fun y hy => An.nt (fun h => An.ret fun h2 => by rw [hy.2 (h2 hi).1.1] at h; cases h) fun h => An.dec (fun h0 => An.ret fun h2 => by have := (h2 hi).1.2.1; omega) fun h0 => ?_
    have tail : (l[i].2.2.1 = true → l[i].2.1 = ⟨#[]⟩) → ∀ y4, (y4 = true ↔ 1 ≤ l[i].2.2.2 ∧ l[i].2.2.2 ≤ 9999) → y4 = true → VOk l[i] := fun g y4 h4 h5 => ⟨hy.1 h, by omega, g, h4.1 h5⟩
    refine An.bif (fun hg => An.nt (fun h1 => An.ret fun h2 => by rw [strEq_iff.2 ((h2 hi).1.2.2.1 hg)] at h1; cases h1) fun h1 => An.bind (l01In_a _ _ _) fun y4 g4 => An.nt (fun h4 => An.ret fun h2 => by rw [g4.2 (h2 hi).1.2.2.2] at h4; cases h4) fun h4 => ?_) fun hg => An.bind (l01In_a _ _ _) fun y4 g4 => An.nt (fun h4 => An.ret fun h2 => by rw [g4.2 (h2 hi).1.2.2.2] at h4; cases h4) fun h4 => ?_
    have hv := tail (fun _ => strEq_iff.1 h1) y4 g4 h4
    rotate_left
    have hv := tail (fun h => by rw [h] at hg; cases hg) y4 g4 h4
    all_goals
      refine An.dec (fun h5 => ?_) fun h5 => An.ret ⟨rfl, fun _ => ⟨hv, fun h6 => absurd h6 (by omega)⟩⟩
      rw [wpred (by omega) (by omega), rd_get _ _ _ (by omega)]
      refine An.ite (by omega) (An.nt (fun h6 => An.ret fun h2 => ?_) fun h6 => An.ite (by omega) (An.bif (fun h7 => An.ite (by omega) (An.dec (fun h8 => An.ret fun h2 => ?_) fun h8 => An.ret ⟨rfl, fun _ => ⟨hv, fun _ => .inr ⟨strEq_iff.1 h7, by omega⟩⟩⟩)) fun h7 => An.ret ⟨rfl, fun _ => ⟨hv, fun _ => .inl ?_⟩⟩))
      · rcases (h2 hi).2 (by omega) with h9 | h9
        · rw [h9] at h6; cases h6
        · rw [h9.1, strEq_refl, Bool.or_true] at h6; cases h6
      · rcases (h2 hi).2 (by omega) with h9 | h9
        · rw [strLess_ne h9] at h7; cases h7
        · omega
      · rw [h7, Bool.or_false] at h6; exact h6
  · exact An.lb (An.dec (fun h => absurd h (by omega)) fun _ => An.ret trivial)
  · exact ⟨nofun, fun h => absurd (asc_all.2 ⟨h.1, h.2.1⟩) hv⟩
  · rw [decide_eq_true_eq]
    have := (asc_all (p := VOk) (r := vLt)).1 hv
    exact ⟨fun h => ⟨this.1, this.2, by omega⟩, fun h => by have := h.2.2; omega⟩
/-- The same, a list of numbers is gathered. -/
theorem An.allA {α : Type} {b : LB α (Int × List Int) ((Int × List Int) ⊕ ((Int × List Int) ⊕ (Int × List Int)))} {u : α} {n : Nat} {x : Int × List Int} (hn : n < 9223372036854775807) (G : Nat → Prop) (acc : Nat → List Int) (h0 : x = (0, acc 0))
    (hs : ∀ i, i < n → An (b.f u ((i : Int), acc i)) (Sum.elim (fun z => z = (W ((i : Int) + 1), acc (i + 1)) ∧ G i) (Sum.elim (fun _ => ¬ G i) fun _ => False)))
    (he : An (b.f u ((n : Int), acc n)) (Sum.elim (fun _ => False) (Sum.elim (fun _ => False) fun z => z.2 = acc n))) :
    An (lpK b u x) (Sum.elim (fun _ => ¬ ∀ i, i < n → G i) fun z => (∀ i, i < n → G i) ∧ z.2 = acc n) := by
  subst h0
  refine An.loop (n + 1) (fun i x => x = ((i : Int), acc i) ∧ i ≤ n ∧ ∀ j, j < i → G j) (by omega) ⟨rfl, by omega, fun j hj => by omega⟩ ?_
  rintro i y ⟨rfl, h1, h2⟩
  by_cases hi : i < n
  · refine (hs i hi).mono fun v hv => ?_
    rcases v with v | v | v
    · obtain ⟨rfl, hg⟩ := hv
      refine ⟨by omega, by rw [wsucc (by omega)], by omega, fun j hj => ?_⟩
      by_cases e : j = i
      · subst e; exact hg
      · exact h2 j (by omega)
    · exact fun h => hv (h i hi)
    · exact hv.elim
  · have : i = n := by omega
    subst this
    refine he.mono fun v hv => ?_
    rcases v with v | v | v
    · exact hv.elim
    · exact hv.elim
    · exact ⟨h2, hv⟩
def idsOf (b : dBase) : List Int := b.2.1.map (·.1) ++ b.2.2.1.map (·.1)
def BOk (b : dBase) : Prop := VsOk b.1 ∧ b.2.1.length ≤ 12 ∧ b.2.2.1.length ≤ 3 ∧ (0 ≤ b.2.2.2.1 ∧ b.2.2.2.1 ≤ 9999) ∧ (1 ≤ b.2.2.2.2 ∧ b.2.2.2.2 ≤ 9999) ∧ (∀ v ∈ b.1, v.2.2.2 ≤ b.2.2.2.1) ∧
  ((∀ t ∈ b.2.1, TOk t ∧ t.2.1 = 3 ∧ t.2.2.2.1 ≤ b.2.2.2.1) ∧ Asc (fun s t : dTxn => s.2.2.2.1 < t.2.2.2.1) b.2.1) ∧
  ((∀ t ∈ b.2.2.1, TOk t ∧ t.2.1 = 2 ∧ t.2.2.1 ≤ b.2.2.2.1) ∧ Asc (fun s t : dTxn => strLess s.2.2.2.2.2.2.2 t.2.2.2.2.2.2.2 = true) b.2.2.1) ∧
  (idsOf b).Nodup ∧ ∀ i ∈ idsOf b, i < b.2.2.2.2
theorem take_map_succ {α β : Type} (f : α → β) (l : List α) (i : Nat) (h : i < l.length) : (l.take i).map f ++ [f l[i]] = (l.take (i + 1)).map f := by
  rw [List.take_succ_eq_append_getElem h, List.map_append]; rfl
theorem BaseOk_a {b : dBase} (hs : Sm tBase b) : An (spec_BaseOk_k b) (fun z => z = true ↔ BOk b) := by
  have hs' := smBase.1 hs
  refine An.fn (An.bind (VersionsOk_a hs'.1.1 hs'.1.2) fun y1 g1 => An.nt (fun h1 => An.ret ⟨nofun, fun h => by rw [g1.2 h.1] at h1; cases h1⟩) fun h1 =>
    An.dec (fun h2 => An.ret ⟨nofun, fun h => by have := h.2.1; omega⟩) fun h2 => An.dec (fun h3 => An.ret ⟨nofun, fun h => by have := h.2.2.1; omega⟩) fun h3 =>
    An.bind (l01In_a _ _ _) fun y4 g4 => An.nt (fun h4 => An.ret ⟨nofun, fun h => by rw [g4.2 h.2.2.2.1] at h4; cases h4⟩) fun h4 =>
    An.bind (l01In_a _ _ _) fun y5 g5 => An.nt (fun h5 => An.ret ⟨nofun, fun h => by rw [g5.2 h.2.2.2.2.1] at h5; cases h5⟩) fun h5 =>
    An.bind2 (An.all (n := b.1.length) (by omega) (fun i => ∀ (h : i < b.1.length), b.1[i].2.2.2 ≤ b.2.2.2.1) (fun i hi => ?_) ?_) (fun _ hv => An.ret ⟨nofun, fun h => absurd (fun i _ hi => h.2.2.2.2.2.1 _ (List.getElem_mem hi)) hv⟩) fun _ hv =>
    An.bind2 (An.allA (n := b.2.1.length) (by omega) (fun i => ∀ (h : i < b.2.1.length), (TOk b.2.1[i] ∧ b.2.1[i].2.1 = 3 ∧ b.2.1[i].2.2.2.1 ≤ b.2.2.2.1) ∧ ∀ (h0 : 0 < i), (b.2.1[i - 1]'(by omega)).2.2.2.1 < b.2.1[i].2.2.2.1) (fun i => (b.2.1.take i).map (·.1)) rfl (fun i hi => ?_) ?_)
      (fun _ hp => An.ret ⟨nofun, fun h => absurd (asc_all.2 h.2.2.2.2.2.2.1) hp⟩) fun z7 hp =>
    An.bind2 (An.allA (n := b.2.2.1.length) (by omega) (fun i => ∀ (h : i < b.2.2.1.length), (TOk b.2.2.1[i] ∧ b.2.2.1[i].2.1 = 2 ∧ b.2.2.1[i].2.2.1 ≤ b.2.2.2.1) ∧ ∀ (h0 : 0 < i), strLess (b.2.2.1[i - 1]'(by omega)).2.2.2.2.2.2.2 b.2.2.1[i].2.2.2.2.2.2.2 = true) (fun i => b.2.1.map (·.1) ++ (b.2.2.1.take i).map (·.1)) ?_ (fun i hi => ?_) ?_)
      (fun _ hr => An.ret ⟨nofun, fun h => absurd (asc_all.2 h.2.2.2.2.2.2.2.1) hr⟩) fun z9 hr => ?_)
  · refine An.lb (An.dec (fun _ => An.ite (by omega) ?_) fun h => absurd hi (by omega))
    rw [rd_get _ _ _ hi]
    exact An.dec (fun h => An.ret fun h2 => by have := h2 hi; omega) fun h => An.ret ⟨rfl, fun _ => by omega⟩
  · exact An.lb (An.dec (fun h => absurd h (by omega)) fun _ => An.ret trivial)
  · refine An.lb (An.dec (fun _ => An.ite (by omega) ?_) fun h => absurd hi (by omega))
    rw [rd_get _ _ _ hi]
    refine An.bind (TxnOk_a (hs'.2.1.2 _ (List.getElem_mem hi))) fun y hy => An.nt (fun h => An.ret fun h2 => by rw [hy.2 (h2 hi).1.1] at h; cases h) fun h => An.bne (fun h6 => An.ret fun h2 => h6 (h2 hi).1.2.1) fun h6 => An.dec (fun h7 => An.ret fun h2 => by have := (h2 hi).1.2.2; omega) fun h7 => An.dec (fun h8 => ?_) fun h8 => ?_
    · rw [wpred (by omega) (by omega), rd_get _ _ _ (by omega)]
      refine An.ite (by omega) (An.dec (fun h9 => An.ret fun h2 => by have := (h2 hi).2 (by omega); omega) fun h9 => An.ite (by simp [maxLen_eq]; omega) (An.ret ⟨by rw [take_map_succ _ _ _ hi], fun _ => ⟨⟨hy.1 h, h6, by omega⟩, fun _ => by omega⟩⟩))
    · exact An.ite (by simp [maxLen_eq]; omega) (An.ret ⟨by rw [take_map_succ _ _ _ hi], fun _ => ⟨⟨hy.1 h, h6, by omega⟩, fun _ => by omega⟩⟩)
  · exact An.lb (An.dec (fun h => absurd h (by omega)) fun _ => An.ret rfl)
  · rw [hp.2]; simp
  · refine An.lb (An.dec (fun _ => An.ite (by omega) ?_) fun h => absurd hi (by omega))
    rw [rd_get _ _ _ hi]
    refine An.bind (TxnOk_a (hs'.2.2.2 _ (List.getElem_mem hi))) fun y hy => An.nt (fun h => An.ret fun h2 => by rw [hy.2 (h2 hi).1.1] at h; cases h) fun h => An.bne (fun h6 => An.ret fun h2 => h6 (h2 hi).1.2.1) fun h6 => An.dec (fun h7 => An.ret fun h2 => by have := (h2 hi).1.2.2; omega) fun h7 => An.dec (fun h8 => ?_) fun h8 => ?_
    · rw [wpred (by omega) (by omega), rd_get _ _ _ (by omega)]
      refine An.ite (by omega) (An.nt (fun h9 => An.ret fun h2 => by rw [(h2 hi).2 (by omega)] at h9; cases h9) fun h9 => An.ite (by simp [maxLen_eq]; omega) (An.ret ⟨by rw [List.append_assoc, take_map_succ _ _ _ hi], fun _ => ⟨⟨hy.1 h, h6, by omega⟩, fun _ => h9⟩⟩))
    · exact An.ite (by simp [maxLen_eq]; omega) (An.ret ⟨by rw [List.append_assoc, take_map_succ _ _ _ hi], fun _ => ⟨⟨hy.1 h, h6, by omega⟩, fun _ => by omega⟩⟩)
  · exact An.lb (An.dec (fun h => absurd h (by omega)) fun _ => An.ret rfl)
  · have hv' : ∀ v ∈ b.1, v.2.2.2 ≤ b.2.2.2.1 := forall_mem_get.1 fun i hi => hv i hi hi
    have hp' := (asc_all (p := fun t : dTxn => TOk t ∧ t.2.1 = 3 ∧ t.2.2.2.1 ≤ b.2.2.2.1) (r := fun s t : dTxn => s.2.2.2.1 < t.2.2.2.1)).1 hp.1
    have hr' := (asc_all (p := fun t : dTxn => TOk t ∧ t.2.1 = 2 ∧ t.2.2.1 ≤ b.2.2.2.1) (r := fun s t : dTxn => strLess s.2.2.2.2.2.2.2 t.2.2.2.2.2.2.2 = true)).1 hr.1
    have he : z9.2 = idsOf b := by rw [hr.2, List.take_length]; rfl
    rw [he]
    have hl : (idsOf b).length ≤ 15 := by simp [idsOf]; omega
    refine An.bind2 (An.all' (n := (idsOf b).length) (by omega) (fun i => ∀ (h : i < (idsOf b).length), (∀ k (hk : k < i), (idsOf b)[k]'(by omega) ≠ (idsOf b)[i]) ∧ (idsOf b)[i] < b.2.2.2.2) (fun i hi => ?_) ?_) (fun _ ha => An.ret ?_) fun _ ha => An.ret ?_
    · refine An.lb ?_
      dsimp only
      refine An.dec (fun _ => An.bind2 (An.all (n := i) (by omega) (fun k => ∀ (hk : k < i), (idsOf b)[k]'(by omega) ≠ (idsOf b)[i]) (fun k hk => ?_) ?_) (fun _ hx => An.ret fun h => hx fun k _ hk => (h hi).1 k hk) fun _ hx => An.ite (by omega) ?_) fun h => absurd hi (by omega)
      · refine An.lb ?_
        dsimp only
        refine An.dec (fun _ => An.ite (by omega) (An.ite (by omega) ?_)) fun h => absurd hk (by omega)
        rw [rd_get _ _ _ (by omega), rd_get _ _ _ hi]
        exact An.beq (fun h => An.ret fun h2 => h2 hk h) fun h => An.ret ⟨rfl, fun _ => h⟩
      · exact An.lb (An.dec (fun h => absurd h (by dsimp only; omega)) fun _ => An.ret trivial)
      · rw [rd_get _ _ _ hi]
        exact An.dec (fun h => An.ret fun h2 => by have := (h2 hi).2; omega) fun h => An.ret ⟨rfl, fun _ => ⟨fun k hk => hx k hk hk, by omega⟩⟩
    · exact An.lb (An.dec (fun h => absurd h (by dsimp only; omega)) fun _ => An.ret trivial)
    · refine ⟨fun _ => ⟨g1.1 h1, by omega, by omega, g4.1 h4, g5.1 h5, hv', hp', hr', List.pairwise_iff_getElem.2 fun i j hi hj hij => (ha j hj hj).1 i hij, forall_mem_get.1 fun i hi => (ha i hi hi).2⟩, fun _ => rfl⟩
    · refine ⟨nofun, fun h => absurd (fun i _ hi => ⟨fun k hk => ?_, ?_⟩) ha⟩
      · exact List.pairwise_iff_getElem.1 h.2.2.2.2.2.2.2.2.1 k i (by omega) hi hk
      · exact h.2.2.2.2.2.2.2.2.2 _ (List.getElem_mem hi)
end Go.VE
namespace Go.VE
set_option linter.unusedVariables false
set_option linter.unusedSimpArgs false
theorem KOk.le {s : ByteArray} (h : KOk s) : s.size ≤ 3 := h.1.2
theorem sm_write {w : dWrite} (h : WOk w) : Sm tWrite w := smWrite.2 ⟨by have := h.1.le; omega, by have := h.2.1; omega⟩
theorem sm_range {r : dRange} (h : ROk r) : Sm tRange r := smRange.2 ⟨by have := h.1.le; omega, by have := h.2.1.le; omega⟩
theorem TOk.name {t : dTxn} (h : TOk t) : t.2.2.2.2.2.2.2.size ≤ 3 := by
  by_cases h2 : t.2.1 = 2
  · exact (h.2.2.2.2.2.2.2.2.1 h2).le
  · rw [h.2.2.2.2.2.2.2.2.2.1 h2]; decide
theorem sm_txn {t : dTxn} (h : TOk t) : Sm tTxn t :=
  smTxn.2 ⟨⟨by have := h.2.2.2.1; omega, fun r hr => sm_range (h.2.2.2.2.2.1 r hr)⟩, ⟨by have := h.2.2.2.2.1.2.2; omega, fun w hw => sm_write (h.2.2.2.2.1.1 w hw)⟩, by have := h.name; omega⟩
theorem sm_base {b : dBase} (h : BOk b) : Sm tBase b :=
  smBase.2 ⟨⟨by have := h.1.2.2; omega, fun v hv => smVersion.2 ⟨by have := (h.1.1 v hv).1.le; omega, by have := (h.1.1 v hv).2.1; omega⟩⟩,
    ⟨by have := h.2.1; omega, fun t ht => sm_txn (h.2.2.2.2.2.2.1.1 t ht).1⟩, ⟨by have := h.2.2.1; omega, fun t ht => sm_txn (h.2.2.2.2.2.2.2.1.1 t ht).1⟩⟩
/-- Names that may be drawn. -/
def Nm (b : dBase) : Prop := ∀ t ∈ b.2.2.1, t.2.2.2.2.2.2.2 ∈ [(⟨#[112]⟩ : ByteArray), ⟨#[113]⟩, ⟨#[114]⟩]
/-- What stays true of an engine in use. -/
def EI (e : dEngine) : Prop := BOk e.1 ∧ Nm e.1 ∧ e.2.length ≤ 4 ∧ ∀ t ∈ e.2, TOk t ∧ t.2.1 = 1 ∧ t.1 < e.1.2.2.2.2 ∧ t.2.2.1 ≤ e.1.2.2.2.1 ∧ t.1 ∉ idsOf e.1
theorem sm_engine {e : dEngine} (h : EI e) : Sm tEngine e := smEngine.2 ⟨sm_base h.1, by have := h.2.2.1; omega, fun t ht => sm_txn (h.2.2.2 t ht).1⟩
/-- A loop whose rounds are told. -/
theorem An.run {α γ β : Type} {b : LB α γ (γ ⊕ β)} {u : α} {x : γ} {Q : β → Prop} {n : Nat} (st : Nat → γ) (hn : n < 9223372036854775807) (h0 : x = st 0)
    (hs : ∀ i, i < n → An (b.f u (st i)) (Sum.elim (fun z => z = st (i + 1)) Q)) (he : An (b.f u (st n)) (Sum.elim (fun _ => False) Q)) : An (lpK b u x) Q := by
  subst h0
  refine An.loop (n + 1) (fun i x => x = st i ∧ i ≤ n) (by omega) ⟨rfl, by omega⟩ ?_
  rintro i y ⟨rfl, h1⟩
  by_cases hi : i < n
  · exact (hs i hi).mono fun v hv => by
      rcases v with v | v
      · exact ⟨by omega, hv, by omega⟩
      · exact hv
  · have : i = n := by omega
    subst this
    exact he.mono fun v hv => by
      rcases v with v | v
      · exact hv.elim
      · exact hv
/-- A loop over numbers below n that hands on nothing. -/
theorem An.go {α β : Type} {b : LB α Int (Int ⊕ β)} {u : α} {Q : β → Prop} {n : Nat} (hn : n < 9223372036854775807)
    (hs : ∀ i, i < n → An (b.f u (i : Int)) (Sum.elim (fun z => z = W ((i : Int) + 1)) Q)) (he : An (b.f u (n : Int)) (Sum.elim (fun _ => False) Q)) : An (lpK b u 0) Q :=
  An.run (fun i => (i : Int)) hn rfl (fun i hi => (hs i hi).mono fun v hv => by
    rcases v with v | v
    · exact hv.trans (wsucc (by omega))
    · exact hv) he
/-- A loop that gathers those of a list that pass. -/
theorem An.filt {α ε : Type} {b : LB α (Int × List ε) ((Int × List ε) ⊕ (Int × List ε))} {u : α} (xs : List ε) (f : ε → Bool) (a0 : List ε) (hl : xs.length ≤ 1000000)
    (hs : ∀ i (hi : i < xs.length) acc, acc.length ≤ a0.length + i → An (b.f u ((i : Int), acc)) (Sum.elim (fun z => z = (W ((i : Int) + 1), if f xs[i] then acc ++ [xs[i]] else acc)) fun _ => False))
    (he : ∀ acc, An (b.f u ((xs.length : Int), acc)) (Sum.elim (fun _ => False) fun z => z.2 = acc)) : An (lpK b u (0, a0)) (fun z => z.2 = a0 ++ xs.filter f) := by
  refine An.run (n := xs.length) (fun i => ((i : Int), a0 ++ (xs.take i).filter f)) (by omega) (by simp) (fun i hi => (hs i hi _ ?_).mono fun v hv => ?_) ((he _).mono fun v hv => ?_)
  · have := List.length_filter_le f (xs.take i)
    simp only [List.length_append, List.length_take] at this ⊢
    omega
  · rcases v with v | v
    · refine Eq.trans hv ?_
      rw [wsucc (by omega), List.take_succ_eq_append_getElem hi, List.filter_append, ← List.append_assoc]
      cases h : f xs[i] <;> simp [h]
    · exact hv.elim
  · rcases v with v | v
    · exact hv.elim
    · rw [List.take_length] at hv; exact hv
def pT (t : dTxn) : Int × Int × Int × Int × Bool × ByteArray × List dRange × List dWrite := (t.1, t.2.1, t.2.2.1, t.2.2.2.1, t.2.2.2.2.2.2.1, t.2.2.2.2.2.2.2, t.2.2.2.2.1, t.2.2.2.2.2.1)
theorem l07Copy_a {t : dTxn} (hs : Sm tTxn t) : An (spec_l07Copy_k t) (fun z => z = pT t) := by
  rw [smTxn] at hs
  exact An.fn (An.ite (by simp [maxLen_eq]; omega) (An.ite (by simp [maxLen_eq]; omega) (An.ret rfl)))
theorem l09Txns_a {l : List dTxn} (hl : l.length ≤ 1000000) (hs : ∀ t ∈ l, Sm tTxn t) : An (spec_l09Txns_k l) (fun z => z = l) := by
  refine An.fn (An.bind (An.filt l (fun _ => true) [] hl (fun i hi acc ha => ?_) fun acc => ?_) fun v hv => An.ret ?_)
  · refine An.lb (An.dec (fun _ => An.ite (by dsimp only; omega) ?_) fun h => absurd hi (by dsimp only at h; omega))
    dsimp only
    rw [rd_get _ _ _ hi]
    refine An.bind (l07Copy_a (hs _ (List.getElem_mem hi))) fun y hy => ?_
    subst hy
    exact An.ite (by simp at ha ⊢; rw [maxLen_eq]; omega) (An.ret rfl)
  · exact An.lb (An.dec (fun h => absurd h (by dsimp only; omega)) fun _ => An.ret rfl)
  · rw [hv, List.nil_append]; exact List.filter_eq_self.2 fun _ _ => rfl
def pB (b : dBase) : Int × Int × List dVersion × List dTxn × List dTxn := (b.2.2.2.1, b.2.2.2.2, b.1, b.2.1, b.2.2.1)
theorem l09Copy_a {b : dBase} (hs : Sm tBase b) : An (spec_l09Copy_k b) (fun z => z = pB b) := by
  rw [smBase] at hs
  refine An.fn (An.ite (by simp [maxLen_eq]; omega) (An.bind (l09Txns_a hs.2.1.1 hs.2.1.2) fun y hy => An.bind (l09Txns_a hs.2.2.1 hs.2.2.2) fun y2 hy2 => An.ret ?_))
  rw [hy, hy2]; rfl
def pE (e : dEngine) : Int × Int × List dVersion × List dTxn × List dTxn × List dTxn := (e.1.2.2.2.1, e.1.2.2.2.2, e.1.1, e.1.2.1, e.1.2.2.1, e.2)
theorem l11Copy_a {e : dEngine} (hs : Sm tEngine e) : An (spec_l11Copy_k e) (fun z => z = pE e) := by
  rw [smEngine] at hs
  exact An.fn (An.bind (l09Copy_a hs.1) fun y hy => An.bind (l09Txns_a hs.2.1 hs.2.2) fun y2 hy2 => An.ret (by rw [hy, hy2]; rfl))
theorem EngineOk_a {e : dEngine} (hs : Sm tEngine e) : An (spec_EngineOk_k e) (fun _ => True) := by
  have hs' := smEngine.1 hs
  have hb := smBase.1 hs'.1
  refine An.fn (An.bind (BaseOk_a hs'.1) fun y _ => An.nt (fun _ => An.ret trivial) fun _ => An.dec (fun _ => An.ret trivial) fun _ => An.bind2 (P := fun _ => True) (P' := fun _ => True) (An.go (n := e.2.length) (by omega) (fun i hi => ?_) ?_) (fun _ _ => An.ret trivial) fun _ _ => An.ret trivial)
  · refine An.lb (An.dec (fun _ => An.ite (by omega) ?_) fun h => absurd hi (by omega))
    rw [rd_get _ _ _ hi]
    refine An.bind (TxnOk_a (hs'.2.2 _ (List.getElem_mem hi))) fun y _ => An.nt (fun _ => An.ret trivial) fun _ => An.bne (fun _ => An.ret trivial) fun _ => An.dec (fun _ => An.ret trivial) fun _ => An.dec (fun _ => An.ret trivial) fun _ => An.dec (fun h => ?_) fun _ => ?_
    refine An.ite (by rw [wpred (by omega) (by omega)]; omega) (An.dec (fun _ => An.ret trivial) fun _ => ?_)
    all_goals
      refine An.bind2 (P := fun _ => True) (P' := fun _ => True) (An.go (n := e.1.2.1.length) (by omega) (fun k hk => ?_) ?_) (fun _ _ => An.ret trivial) fun _ _ => An.bind2 (P := fun _ => True) (P' := fun _ => True) (An.go (n := e.1.2.2.1.length) (by omega) (fun k hk => ?_) ?_) (fun _ _ => An.ret trivial) fun _ _ => An.ret rfl
      · exact An.lb (An.dec (fun _ => An.ite (by dsimp only; omega) (An.beq (fun _ => An.ret trivial) fun _ => An.ret rfl)) fun h => absurd hk (by dsimp only at h; omega))
      · exact An.lb (An.dec (fun h => absurd h (by dsimp only; omega)) fun _ => An.ret trivial)
      · exact An.lb (An.dec (fun _ => An.ite (by dsimp only; omega) (An.beq (fun _ => An.ret trivial) fun _ => An.ret rfl)) fun h => absurd hk (by dsimp only at h; omega))
      · exact An.lb (An.dec (fun h => absurd h (by dsimp only; omega)) fun _ => An.ret trivial)
  · exact An.lb (An.dec (fun h => absurd h (by omega)) fun _ => An.ret trivial)
/-- One who begins. -/
theorem TOk_new {i c : Int} (hi : 1 ≤ i ∧ i ≤ 9999) (hc : 0 ≤ c ∧ c ≤ 9999) : TOk (i, 1, c, 0, [], [], false, ⟨#[]⟩) :=
  ⟨hi, by simp, hc, by simp, ⟨by simp, fun i h => absurd h (by simp), by simp⟩, by simp, fun h => absurd h (by simp), fun _ => rfl, fun h => absurd h (by simp), fun _ => rfl, fun _ => rfl⟩
theorem BOk.next {b : dBase} (h : BOk b) {n : Int} (hn : b.2.2.2.2 ≤ n ∧ n ≤ 9999) : BOk (b.1, b.2.1, b.2.2.1, b.2.2.2.1, n) :=
  ⟨h.1, h.2.1, h.2.2.1, h.2.2.2.1, by have := h.2.2.2.2.1; exact ⟨by dsimp only; omega, hn.2⟩, h.2.2.2.2.2.1, h.2.2.2.2.2.2.1, h.2.2.2.2.2.2.2.1, h.2.2.2.2.2.2.2.2.1, fun i hi => by have := h.2.2.2.2.2.2.2.2.2 i hi; dsimp only; omega⟩
theorem Begin_a {e : dEngine} (h : EI e) : An (spec_Begin_k e) (fun z => EI z.1) := by
  have hs := sm_engine h
  refine An.fn (An.bind (l11Copy_a hs) fun y hy => ?_)
  subst hy
  dsimp only [pE]
  refine An.bind (EngineOk_a hs) fun y2 _ => An.nt (fun _ => An.ret h) fun _ => An.dec (fun _ => An.ret h) fun h4 => An.dec (fun _ => An.ret h) fun h5 => An.ite (by have := h.2.2.1; simp [maxLen_eq]; omega) (An.ret ?_)
  have hn := h.1.2.2.2.2.1
  rw [W_eq (by omega) (by omega)]
  refine ⟨h.1.next ⟨by omega, by omega⟩, h.2.1, by simp; omega, fun t ht => ?_⟩
  rcases List.mem_append.1 ht with ht | ht
  · have := h.2.2.2 t ht
    exact ⟨this.1, this.2.1, by have := this.2.2.1; dsimp only; omega, this.2.2.2.1, this.2.2.2.2⟩
  · simp only [List.mem_singleton] at ht
    subst ht
    refine ⟨TOk_new ⟨by omega, by omega⟩ h.1.2.2.2.1, rfl, by dsimp only; omega, Int.le_refl _, fun hm => ?_⟩
    have := h.1.2.2.2.2.2.2.2.2.2 _ hm
    dsimp only at this
    omega
theorem OpenAt_a {e : dEngine} (hl : e.2.length ≤ 1000000) (id : Int) : An (spec_OpenAt_k (e, id)) (fun z => (z = -1 ∧ ∀ t ∈ e.2, t.1 ≠ id) ∨ ∃ i, ∃ h : i < e.2.length, z = (i : Int) ∧ e.2[i].1 = id) := by
  refine An.fn (An.bind2 (P := fun z => ∃ i, ∃ h : i < e.2.length, z.1 = (i : Int) ∧ e.2[i].1 = id) (P' := fun _ => ∀ t ∈ e.2, t.1 ≠ id) (An.loop (e.2.length + 1) (fun i x => x = (i : Int) ∧ i ≤ e.2.length ∧ ∀ j (h : j < e.2.length), j < i → e.2[j].1 ≠ id) (by omega) ⟨rfl, by omega, fun j _ h => by omega⟩ ?_)
    (fun z hz => An.ret (.inr hz)) fun z hz => An.ret (.inl ⟨rfl, hz⟩))
  rintro i y ⟨rfl, h1, h2⟩
  refine An.lb (An.dec (fun h => ?_) fun h => An.ret (forall_mem_get.1 fun j hj => h2 j hj (by dsimp only at h; omega)))
  dsimp only at h ⊢
  have hi : i < e.2.length := by omega
  refine An.ite (by omega) ?_
  rw [rd_get _ _ _ hi]
  refine An.beq (fun h3 => An.ret ⟨i, hi, rfl, h3⟩) fun h3 => An.ret ⟨by omega, wsucc (by omega), by omega, fun j hj hji => ?_⟩
  by_cases e : j = i
  · subst e; exact h3
  · exact h2 j hj (by omega)
end Go.VE
namespace Go.VE
set_option linter.unusedVariables false
set_option linter.unusedSimpArgs false
theorem l06At_r {l : List dVersion} (hl : l.length ≤ 1000000) (key : ByteArray) (snap : Int) : An (spec_l06At_k (l, key, snap)) (fun z => z = -1 ∨ 0 ≤ z ∧ z < (l.length : Int)) := by
  refine An.fn (An.bind (P := fun z => z.1 = -1 ∨ 0 ≤ z.1 ∧ z.1 < (l.length : Int)) (An.loop (l.length + 1) (fun i x => x.2 = (i : Int) ∧ i ≤ l.length ∧ (x.1 = -1 ∨ 0 ≤ x.1 ∧ x.1 < (l.length : Int))) (by omega) ⟨rfl, by omega, .inl rfl⟩ ?_) fun v hv => An.ret hv)
  rintro i ⟨at', _⟩ ⟨rfl, h1, h2⟩
  refine An.lb ?_
  dsimp only at h2 ⊢
  refine An.dec (fun h => ?_) fun h => An.ret h2
  have hw := wsucc (i := i) (by omega)
  have g1 : An (fun k => k (Sum.inl (at', W ((i : Int) + 1)))) (Sum.elim (fun z : Int × Int => i < l.length + 1 ∧ z.2 = ((i + 1 : Nat) : Int) ∧ i + 1 ≤ l.length ∧ (z.1 = -1 ∨ 0 ≤ z.1 ∧ z.1 < (l.length : Int))) (fun z : Int × Int => z.1 = -1 ∨ 0 ≤ z.1 ∧ z.1 < (l.length : Int))) := An.ret ⟨by omega, hw, by omega, h2⟩
  have g2 : An (fun k => k (Sum.inl ((i : Int), W ((i : Int) + 1)))) (Sum.elim (fun z : Int × Int => i < l.length + 1 ∧ z.2 = ((i + 1 : Nat) : Int) ∧ i + 1 ≤ l.length ∧ (z.1 = -1 ∨ 0 ≤ z.1 ∧ z.1 < (l.length : Int))) (fun z : Int × Int => z.1 = -1 ∨ 0 ≤ z.1 ∧ z.1 < (l.length : Int))) := An.ret ⟨by omega, hw, by omega, .inr ⟨by omega, h⟩⟩
  exact An.ite (by omega) (An.bif (fun _ => An.ite (by omega) (An.dec (fun _ => An.dec (fun _ => g2) fun h3 => An.ite (by omega) (An.ite (by omega) (An.dec (fun _ => g2) fun _ => g1))) fun _ => g1)) fun _ => g1)
theorem SeenAt_r {l : List dVersion} (hl : l.length ≤ 1000000) (key : ByteArray) (snap : Int) : An (spec_SeenAt_k (l, key, snap)) (fun _ => True) :=
  An.fn (An.bind (l06At_r hl key snap) fun y hy => An.dec (fun _ => An.ret trivial) fun h => An.ite (by dsimp only; omega) (An.bif (fun _ => An.ret trivial) fun _ => An.ite (by dsimp only; omega) (An.ret trivial)))
theorem OwnGet_r {t : dTxn} {l : List dVersion} (ht : t.2.2.2.2.2.1.length ≤ 1000000) (hl : l.length ≤ 1000000) (key : ByteArray) : An (spec_OwnGet_k (t, l, key)) (fun _ => True) := by
  refine An.fn (An.bind2 (P := fun _ => True) (P' := fun _ => True) (An.loop (t.2.2.2.2.2.1.length + 1) (fun i x => x.2 = (i : Int) ∧ i ≤ t.2.2.2.2.2.1.length) (by omega) ⟨rfl, by omega⟩ ?_) (fun _ _ => An.ret trivial) fun _ _ => An.bind (SeenAt_r hl _ _) fun _ _ => An.ret trivial)
  rintro i ⟨s, _⟩ ⟨rfl, h1⟩
  refine An.lb ?_
  dsimp only
  exact An.dec (fun h => An.ite (by omega) (An.bif (fun _ => An.ite (by omega) (An.bif (fun _ => An.ret trivial) fun _ => An.ite (by omega) (An.ret trivial))) fun _ => An.ret ⟨by omega, wsucc (by omega), by omega⟩)) fun _ => An.ret trivial
theorem OpenKeep {e : dEngine} (h : EI e) {i : Nat} (hi : i < e.2.length) {t : dTxn} (h1 : TOk t) (h2 : t.2.1 = 1) (h3 : t.1 = e.2[i].1) (h4 : t.2.2.1 = e.2[i].2.2.1) : EI (e.1, e.2.set i t) := by
  refine ⟨h.1, h.2.1, by rw [List.length_set]; exact h.2.2.1, fun s hs => ?_⟩
  rcases List.mem_or_eq_of_mem_set hs with hs | rfl
  · exact h.2.2.2 s hs
  · have := h.2.2.2 _ (List.getElem_mem hi)
    exact ⟨h1, h2, by rw [h3]; exact this.2.2.1, by rw [h4]; exact this.2.2.2.1, by rw [h3]; exact this.2.2.2.2⟩
theorem WsOk.len {l : List dWrite} (h : WsOk l) : l.length ≤ 8 := h.2.2
theorem ReadRange_a {t : dTxn} {r : dRange} (hs : Sm tTxn t) (hr : Sm tRange r) : An (spec_ReadRange_k (t, r)) (fun z => z.2 = true → TOk z.1 ∧ z.1.2.1 = 1 ∧ z.1.1 = t.1 ∧ z.1.2.2.1 = t.2.2.1) := by
  have hs' := smTxn.1 hs
  refine An.fn (An.bind (l07Copy_a hs) fun y hy => ?_)
  subst hy
  dsimp only [pT]
  refine An.bind (TxnOk_a hs) fun y2 g2 => An.nt (fun _ => An.ret nofun) fun h2 => An.bne (fun _ => An.ret nofun) fun h3 => An.bind (RangeOk_a hr) fun y4 g4 => An.nt (fun _ => An.ret nofun) fun h4 => ?_
  have ht := g2.1 h2
  refine An.bind2 (P := fun z => z.2 = (t.1, t.2.1, t.2.2.1, t.2.2.2.1, (t.2.2.2.2.2.2.1, t.2.2.2.2.2.2.2), t.2.2.2.2.1, t.2.2.2.2.2.1)) (P' := fun z => z.2.2.2.2.1 = t.2.2.2.2.1 ∧ z.2.2.2.2.2 = t.2.2.2.2.2.1)
    (An.run (n := t.2.2.2.2.1.length) (fun i => ((i : Int), (false, ⟨#[]⟩), [], [], t.2.2.2.2.1, t.2.2.2.2.2.1)) (by omega) rfl (fun i hi => ?_) ?_) (fun z hz => An.ret fun _ => ?_) fun z hz => ?_
  · refine An.lb ?_
    dsimp only
    refine An.dec (fun _ => An.ite (by omega) (An.bif (fun _ => An.ret rfl) fun _ => An.ret ?_)) fun h => absurd hi (by omega)
    simp only [Sum.elim_inl]
    rw [wsucc (by omega)]
  · exact An.lb (An.dec (fun h => absurd h (by dsimp only; omega)) fun _ => An.ret ⟨rfl, rfl⟩)
  · rw [hz]
    exact ⟨ht, h3, rfl, rfl⟩
  · rw [hz.1, hz.2]
    refine An.dec (fun _ => An.ret nofun) fun h5 => An.ite (by simp [maxLen_eq]; omega) (An.ret fun _ => ⟨⟨ht.1, ht.2.1, ht.2.2.1, by simp; omega, ht.2.2.2.2.1, fun q hq => ?_, ht.2.2.2.2.2.2⟩, h3, rfl, rfl⟩)
    rcases List.mem_append.1 hq with hq | hq
    · exact ht.2.2.2.2.2.1 q hq
    · rw [List.mem_singleton.1 hq]; exact g4.1 h4
theorem GetKey_a {e : dEngine} (h : EI e) (id : Int) {key : ByteArray} (hk : key.size ≤ 1000000) : An (spec_GetKey_k (e, id, key)) (fun z => EI z.1) := by
  have hs := sm_engine h
  refine An.fn (An.bind (l11Copy_a hs) fun y hy => ?_)
  subst hy
  dsimp only [pE]
  refine An.bind (OpenAt_a (smEngine.1 hs).2.1 id) fun y2 g2 => An.dec (fun _ => An.ret h) fun h2 => An.bind (KeyOk_a hk) fun y3 g3 => An.nt (fun _ => An.ret h) fun _ => ?_
  rcases g2 with ⟨rfl, _⟩ | ⟨i, hi, rfl, _⟩
  · exact absurd h2 (by decide)
  rw [rd_get _ _ _ hi]
  have hm := h.2.2.2 _ (List.getElem_mem hi)
  refine An.ite (by omega) (An.bind (ReadRange_a (sm_txn hm.1) (smRange.2 ⟨hk, hk⟩)) fun y4 g4 => An.nt (fun _ => An.ret h) fun h4 => ?_)
  obtain ⟨k1, k2, k3, k4⟩ := g4 h4
  exact An.ite (by omega) (An.bind (OwnGet_r (smTxn.1 (sm_txn k1)).2.1.1 (smBase.1 (sm_base h.1)).1.1 _) fun y5 _ => An.ret (OpenKeep h hi k1 k2 k3 k4))
noncomputable def inR (r : dRange) (key : ByteArray) : Bool := !(strLess key r.1) && (strLess key r.2 || strEq key r.2)
theorem InRange_e (r : dRange) (key : ByteArray) : An (spec_InRange_k (r, key)) (fun z => z = inR r key) :=
  An.fn (An.bif (fun h => An.ret (by simp only [inR] at h ⊢; rw [h]; rfl)) fun h => An.ret (by simp only [inR] at h ⊢; rw [h]; rfl))
/-- A key among keys in order. -/
noncomputable def insK {α : Type} (key : α → ByteArray) (out : List α) (w : α) : List α := (out.filter fun y => strLess (key y) (key w)) ++ w :: out.filter fun y => !(strLess (key y) (key w) || strEq (key y) (key w))
theorem filt2_le {α : Type} (p q : α → Bool) (l : List α) (h : ∀ x, p x = true → q x = false) : (l.filter p).length + (l.filter q).length ≤ l.length := by
  induction l with
  | nil => simp
  | cons a l ih =>
    have := h a
    simp only [List.filter_cons]
    cases hp : p a <;> cases hq : q a <;> simp_all <;> omega
theorem insK_len {α : Type} (key : α → ByteArray) (out : List α) (w : α) : (insK key out w).length ≤ out.length + 1 := by
  have := filt2_le (fun y => strLess (key y) (key w)) (fun y => !(strLess (key y) (key w) || strEq (key y) (key w))) out (fun x h => by simp [h])
  simp only [insK, List.length_append, List.length_cons]
  omega
theorem PutWrite_a {l : List dWrite} (hl : l.length ≤ 100000) (w : dWrite) : An (spec_PutWrite_k (l, w)) (fun z => z = insK (·.1) l w) := by
  have hf := List.length_filter_le (fun y : dWrite => strLess y.1 w.1) l
  refine An.fn (An.bind (An.filt l (fun y => strLess y.1 w.1) [] (by omega) (fun i hi acc ha => ?_) fun acc => ?_) fun z1 h1 => An.ite (by rw [h1]; simp [maxLen_eq]; omega) (An.bind (An.filt l (fun y => !(strLess y.1 w.1 || strEq y.1 w.1)) (z1.2 ++ [w]) (by omega) (fun i hi acc ha => ?_) fun acc => ?_) fun z2 h2 => An.ret ?_))
  · refine An.lb ?_
    dsimp only
    rw [rd_get _ _ _ hi]
    simp at ha
    exact An.dec (fun _ => An.ite (by omega) (An.bif (fun h => An.ite (by omega) (An.ite (by simp [maxLen_eq]; omega) (An.ret (by rw [h]; rfl)))) fun h => An.ret (by rw [h]; rfl))) fun h => absurd hi (by omega)
  · exact An.lb (An.dec (fun h => absurd h (by dsimp only; omega)) fun _ => An.ret rfl)
  · refine An.lb ?_
    dsimp only
    rw [rd_get _ _ _ hi]
    simp [h1] at ha
    exact An.dec (fun _ => An.ite (by omega) (An.bif (fun h => An.ite (by omega) (An.ite (by simp [maxLen_eq]; omega) (An.ret (by rw [h]; rfl)))) fun h => An.ret (by rw [h]; rfl))) fun h => absurd hi (by omega)
  · exact An.lb (An.dec (fun h => absurd h (by dsimp only; omega)) fun _ => An.ret rfl)
  · rw [h2, h1, insK]; simp
theorem l06Keys_a {l : List dVersion} (hl : l.length ≤ 100000) (r : dRange) : An (spec_l06Keys_k (l, r)) (fun z => z = ((l.map (·.1)).filter (inR r)).foldl (insK id) []) := by
  have key : ∀ i, i ≤ l.length → ((((l.map (·.1)).take i).filter (inR r)).foldl (insK id) []).length ≤ i := by
    intro i
    induction i with
    | zero => intro _; simp
    | succ i ih =>
      intro h
      have := ih (by omega)
      rw [List.take_succ_eq_append_getElem (by simp; omega), List.filter_append, List.foldl_append]
      simp only [List.filter_cons, List.filter_nil]
      split
      · have := insK_len id ((((l.map (·.1)).take i).filter (inR r)).foldl (insK id) []) ((l.map (·.1))[i]'(by simp; omega))
        simp only [List.foldl_cons, List.foldl_nil]
        omega
      · simp only [List.foldl_nil]; omega
  refine An.fn (An.bind (P := fun z => z.1 = ((l.map (·.1)).filter (inR r)).foldl (insK id) []) (An.run (n := l.length) (fun i => ((((l.map (·.1)).take i).filter (inR r)).foldl (insK id) [], (i : Int))) (by omega) (by simp) (fun i hi => ?_) ?_) fun v hv => An.ret hv)
  · have hk := key i (by omega)
    generalize hout : (((l.map (·.1)).take i).filter (inR r)).foldl (insK id) [] = out at hk
    rw [List.take_succ_eq_append_getElem (by simp; omega), List.filter_append, List.foldl_append, hout]
    refine An.lb ?_
    dsimp only
    rw [rd_get _ _ _ hi]
    refine An.dec (fun _ => An.ite (by omega) (An.bind (InRange_e _ _) fun y hy => An.nt (fun h => An.ret ?_) fun h => ?_)) fun h => absurd hi (by omega)
    · rw [hy] at h
      simp only [Sum.elim_inl, List.getElem_map, List.filter_cons, h, List.filter_nil, List.foldl_nil]
      rw [wsucc (by omega)]; simp
    · rw [hy] at h
      have hf := List.length_filter_le (fun y => strLess y l[i].1) out
      refine An.bind (An.filt out (fun y => strLess y l[i].1) [] (by omega) (fun j hj acc ha => ?_) fun acc => ?_) fun z3 h3 => An.ite (by rw [h3]; simp [maxLen_eq]; omega) (An.bind (An.filt out (fun y => !(strLess y l[i].1 || strEq y l[i].1)) (z3.2 ++ [l[i].1]) (by omega) (fun j hj acc ha => ?_) fun acc => ?_) fun z4 h4 => An.ret ?_)
      · refine An.lb ?_
        dsimp only
        rw [rd_get _ _ _ hj]
        simp at ha
        exact An.dec (fun _ => An.ite (by omega) (An.bif (fun h => An.ite (by omega) (An.ite (by simp [maxLen_eq]; omega) (An.ret (by rw [h]; rfl)))) fun h => An.ret (by rw [h]; rfl))) fun h => absurd hj (by omega)
      · exact An.lb (An.dec (fun h => absurd h (by dsimp only; omega)) fun _ => An.ret rfl)
      · refine An.lb ?_
        dsimp only
        rw [rd_get _ _ _ hj]
        simp [h3] at ha
        exact An.dec (fun _ => An.ite (by omega) (An.bif (fun h => An.ite (by omega) (An.ite (by simp [maxLen_eq]; omega) (An.ret (by rw [h]; rfl)))) fun h => An.ret (by rw [h]; rfl))) fun h => absurd hj (by omega)
      · exact An.lb (An.dec (fun h => absurd h (by dsimp only; omega)) fun _ => An.ret rfl)
      · simp only [Sum.elim_inl, List.getElem_map, List.filter_cons, h, List.filter_nil, List.foldl_nil, if_true, List.foldl_cons]
        rw [wsucc (by omega), h4, h3, insK]; simp
  · refine An.lb (An.dec (fun h => absurd h (by dsimp only; omega)) fun _ => An.ret ?_)
    simp only [Sum.elim_inr, List.length_map, List.take_of_length_le, Nat.le_refl]
end Go.VE
namespace Go.VE
set_option linter.unusedVariables false
set_option linter.unusedSimpArgs false
theorem foldl_insK_len (l : List ByteArray) (out : List ByteArray) : (l.foldl (insK id) out).length ≤ out.length + l.length := by
  induction l generalizing out with
  | nil => simp
  | cons a l ih =>
    have := ih (insK id out a)
    have := insK_len id out a
    simp only [List.foldl_cons, List.length_cons]
    omega
theorem OwnScan_r {t : dTxn} {l : List dVersion} (ht : t.2.2.2.2.2.1.length ≤ 1000) (hl : l.length ≤ 1000) (r : dRange) : An (spec_OwnScan_k (t, l, r)) (fun _ => True) := by
  refine An.fn (An.ite (by simp [maxLen_eq]; omega) (An.bind (P := fun z => z.2.length ≤ 2000) (An.loop (t.2.2.2.2.2.1.length + 1) (fun i x => x.1 = (i : Int) ∧ i ≤ t.2.2.2.2.2.1.length ∧ x.2.length = l.length + i) (by omega) ⟨rfl, by omega, by simp⟩ ?_) fun z1 h1 => An.bind (l06Keys_a (by omega) _) fun y2 h2 => An.bind (P := fun _ => True) ?_ fun _ _ => An.ret trivial))
  · rintro i ⟨_, acc⟩ ⟨rfl, h1, h2⟩
    refine An.lb ?_
    dsimp only at h2 ⊢
    exact An.dec (fun h => An.ite (by omega) (An.ite (by simp [maxLen_eq]; omega) (An.ret ⟨by omega, wsucc (by omega), by omega, by simp; omega⟩))) fun _ => An.ret (by show acc.length ≤ 2000; omega)
  · have h3 : y2.length ≤ 2000 := by
      rw [h2]
      dsimp only
      have e1 := foldl_insK_len ((z1.2.map (·.1)).filter (inR r)) []
      have e2 := List.length_filter_le (inR r) (z1.2.map (·.1))
      simp only [List.length_nil, List.length_map] at e1 e2
      omega
    refine An.loop (y2.length + 1) (fun i x => x.1 = (i : Int) ∧ i ≤ y2.length ∧ x.2.length ≤ i) (by omega) ⟨rfl, by omega, by simp⟩ ?_
    rintro i ⟨_, acc⟩ ⟨rfl, h4, h5⟩
    refine An.lb ?_
    dsimp only at h5 ⊢
    exact An.dec (fun h => An.ite (by omega) (An.bind (OwnGet_r (by omega) (by omega) _) fun y4 _ => An.bif (fun _ => An.ite (by omega) (An.ite (by simp [maxLen_eq]; omega) (An.ret ⟨by omega, wsucc (by omega), by omega, by simp; omega⟩))) fun _ => An.ret ⟨by omega, wsucc (by omega), by omega, by dsimp only; omega⟩)) fun _ => An.ret trivial
theorem ScanKeys_a {e : dEngine} (h : EI e) (id : Int) {r : dRange} (hr : Sm tRange r) : An (spec_ScanKeys_k (e, id, r)) (fun z => EI z.1) := by
  have hs := sm_engine h
  refine An.fn (An.bind (l11Copy_a hs) fun y hy => ?_)
  subst hy
  dsimp only [pE]
  refine An.bind (OpenAt_a (smEngine.1 hs).2.1 id) fun y2 g2 => An.dec (fun _ => An.ret h) fun h2 => An.bind (RangeOk_a hr) fun y3 g3 => An.nt (fun _ => An.ret h) fun _ => ?_
  rcases g2 with ⟨rfl, _⟩ | ⟨i, hi, rfl, _⟩
  · exact absurd h2 (by decide)
  rw [rd_get _ _ _ hi]
  have hm := h.2.2.2 _ (List.getElem_mem hi)
  refine An.ite (by omega) (An.bind (ReadRange_a (sm_txn hm.1) hr) fun y4 g4 => An.nt (fun _ => An.ret h) fun h4 => ?_)
  obtain ⟨k1, k2, k3, k4⟩ := g4 h4
  exact An.ite (by omega) (An.bind (OwnScan_r (by have := k1.2.2.2.2.1.len; omega) (by have := h.1.1.2.2; omega) _) fun y5 _ => An.ret (OpenKeep h hi k1 k2 k3 k4))
theorem WriteKey_a {t : dTxn} {w : dWrite} (hs : Sm tTxn t) (hw : Sm tWrite w) : An (spec_WriteKey_k (t, w)) (fun z => z.2 = true → TOk z.1 ∧ z.1.2.1 = 1 ∧ z.1.1 = t.1 ∧ z.1.2.2.1 = t.2.2.1) := by
  have hs' := smTxn.1 hs
  refine An.fn (An.bind (l07Copy_a hs) fun y hy => ?_)
  subst hy
  dsimp only [pT]
  refine An.bind (TxnOk_a hs) fun y2 g2 => An.nt (fun _ => An.ret nofun) fun h2 => An.bne (fun _ => An.ret nofun) fun h3 => An.bind (WriteOk_a hw) fun y4 g4 => An.nt (fun _ => An.ret nofun) fun h4 => ?_
  have ht := g2.1 h2
  refine An.bind (PutWrite_a (by have := ht.2.2.2.2.1.len; omega) w) fun y5 g5 => An.bind (WritesOk_a ?_ ?_) fun y6 g6 => An.nt (fun _ => An.bind (l07Copy_a hs) fun y7 _ => An.ret nofun) fun h6 => An.ret fun _ => ⟨⟨ht.1, ht.2.1, ht.2.2.1, ht.2.2.2.1, g6.1 h6, ht.2.2.2.2.2⟩, h3, rfl, rfl⟩
  · rw [g5]; have := insK_len (·.1) t.2.2.2.2.2.1 w; have := ht.2.2.2.2.1.len; omega
  · intro x hx
    rw [g5, insK] at hx
    rcases List.mem_append.1 hx with hx | hx
    · exact hs'.2.1.2 x (List.mem_filter.1 hx).1
    · rcases List.mem_cons.1 hx with rfl | hx
      · exact hw
      · exact hs'.2.1.2 x (List.mem_filter.1 hx).1
theorem PutKey_a {e : dEngine} (h : EI e) (id : Int) {w : dWrite} (hw : Sm tWrite w) : An (spec_PutKey_k (e, id, w)) (fun z => EI z.1) := by
  have hs := sm_engine h
  refine An.fn (An.bind (l11Copy_a hs) fun y hy => ?_)
  subst hy
  dsimp only [pE]
  refine An.bind (OpenAt_a (smEngine.1 hs).2.1 id) fun y2 g2 => An.dec (fun _ => An.ret h) fun h2 => An.bind (WriteOk_a hw) fun y3 g3 => An.nt (fun _ => An.ret h) fun _ => ?_
  rcases g2 with ⟨rfl, _⟩ | ⟨i, hi, rfl, _⟩
  · exact absurd h2 (by decide)
  rw [rd_get _ _ _ hi]
  have hm := h.2.2.2 _ (List.getElem_mem hi)
  refine An.ite (by omega) (An.bind (WriteKey_a (sm_txn hm.1) hw) fun y4 g4 => An.nt (fun _ => An.ret h) fun h4 => ?_)
  obtain ⟨k1, k2, k3, k4⟩ := g4 h4
  exact An.ite (by omega) (An.ret (OpenKeep h hi k1 k2 k3 k4))
end Go.VE
namespace Go.VE
set_option linter.unusedVariables false
set_option linter.unusedSimpArgs false
def besideB (a b : dTxn) : Bool := !(a.1 == b.1) && !(a.2.1 == 3 && decide (a.2.2.2.1 ≤ b.2.2.1)) && !(b.2.1 == 3 && decide (b.2.2.2.1 ≤ a.2.2.1))
theorem Beside_a (a b : dTxn) : An (spec_Beside_k (a, b)) (fun z => z = besideB a b) := by
  refine An.fn ?_
  dsimp only
  unfold besideB
  cases a.1 == b.1 <;> cases a.2.1 == 3 <;> cases b.2.1 == 3 <;> cases decide (a.2.2.2.1 ≤ b.2.2.1) <;> cases decide (b.2.2.2.1 ≤ a.2.2.1) <;> exact An.ret rfl
noncomputable def touchB (r : List dRange) (w : List dWrite) : Bool := r.any fun a => w.any fun b => inR a b.1
theorem Touches_a {r : List dRange} {w : List dWrite} (hr : r.length ≤ 1000000) (hw : w.length ≤ 1000000) : An (spec_Touches_k (r, w)) (fun z => z = touchB r w) := by
  refine An.fn (An.bind2 (An.all' (n := r.length) (by omega) (fun i => ∀ (h : i < r.length), (w.any fun b => inR r[i] b.1) = false) (fun i hi => ?_) ?_) (fun _ hv => An.ret ?_) fun _ hv => An.ret ?_)
  · refine An.lb ?_
    dsimp only
    refine An.dec (fun _ => An.bind2 (An.all (n := w.length) (by omega) (fun k => ∀ (h : k < w.length), inR r[i] w[k].1 = false) (fun k hk => ?_) ?_) (fun _ hx => An.ret fun h => hx fun k _ hk => ?_) fun _ hx => An.ret ⟨rfl, fun _ => ?_⟩) fun h => absurd hi (by omega)
    · refine An.lb ?_
      dsimp only
      rw [rd_get _ _ _ hi, rd_get _ _ _ hk]
      exact An.dec (fun _ => An.ite (by omega) (An.ite (by omega) (An.bind (InRange_e _ _) fun y hy => An.bif (fun h => An.ret fun h2 => by rw [hy, h2 hk] at h; cases h) fun h => An.ret ⟨rfl, fun _ => by rw [← hy]; exact h⟩))) fun h => absurd hk (by omega)
    · exact An.lb (An.dec (fun h => absurd h (by dsimp only; omega)) fun _ => An.ret trivial)
    · have := h hi
      rw [List.any_eq_false] at this
      exact Bool.eq_false_iff.2 (this _ (List.getElem_mem hk))
    · rw [List.any_eq_false]
      exact fun x hm h => by rw [forall_mem_get (p := fun b : dWrite => inR r[i] b.1 = false).1 (fun k hk => hx k hk hk) x hm] at h; cases h
  · exact An.lb (An.dec (fun h => absurd h (by dsimp only; omega)) fun _ => An.ret trivial)
  · refine Eq.symm (List.any_eq_false.2 fun x hx => ?_)
    have := forall_mem_get (p := fun a : dRange => (w.any fun b => inR a b.1) = false).1 (fun i hi => hv i hi hi) x hx
    exact Bool.eq_false_iff.1 this
  · refine Eq.symm ?_
    cases h : touchB r w with
    | true => rfl
    | false =>
      exfalso
      refine hv fun i _ hi => ?_
      exact Bool.eq_false_iff.2 (List.any_eq_false.1 h _ (List.getElem_mem hi))
noncomputable def aheadB (a b : dTxn) : Bool := besideB a b && touchB a.2.2.2.2.1 b.2.2.2.2.2.1
theorem Ahead_a {a b : dTxn} (ha : Sm tTxn a) (hb : Sm tTxn b) : An (spec_Ahead_k (a, b)) (fun z => z = aheadB a b) :=
  An.fn (An.bind (Beside_a a b) fun y hy => An.bif (fun h => An.bind (Touches_a (smTxn.1 ha).1.1 (smTxn.1 hb).2.1.1) fun y2 h2 => An.ret (by rw [h2, aheadB, ← hy, h]; rfl)) fun h => An.ret (by rw [aheadB, ← hy, h]; rfl))
theorem Meets_a {a b : List dWrite} (ha : a.length ≤ 1000000) (hb : b.length ≤ 1000000) : An (spec_Meets_k (a, b)) (fun _ => True) := by
  refine An.fn (An.bind2 (P := fun _ => True) (P' := fun _ => True) (An.go (n := a.length) (by omega) (fun i hi => ?_) ?_) (fun _ _ => An.ret trivial) fun _ _ => An.ret trivial)
  · refine An.lb ?_
    dsimp only
    refine An.dec (fun _ => An.bind2 (P := fun _ => True) (P' := fun _ => True) (An.go (n := b.length) (by omega) (fun k hk => ?_) ?_) (fun _ _ => An.ret trivial) fun _ _ => An.ret rfl) fun h => absurd hi (by omega)
    · exact An.lb (An.dec (fun _ => An.ite (by dsimp only; omega) (An.ite (by dsimp only; omega) (An.bif (fun _ => An.ret trivial) fun _ => An.ret rfl))) fun h => absurd hk (by dsimp only at h; omega))
    · exact An.lb (An.dec (fun h => absurd h (by dsimp only; omega)) fun _ => An.ret trivial)
  · exact An.lb (An.dec (fun h => absurd h (by dsimp only; omega)) fun _ => An.ret trivial)
theorem Blocked_a {t : dTxn} {l : List dTxn} (ht : Sm tTxn t) (hl : l.length ≤ 1000000) (hs : ∀ x ∈ l, Sm tTxn x) : An (spec_Blocked_k (t, l)) (fun _ => True) := by
  refine An.fn (An.bind2 (P := fun _ => True) (P' := fun _ => True) (An.go (n := l.length) (by omega) (fun i hi => ?_) ?_) (fun _ _ => An.ret trivial) fun _ _ => An.ret trivial)
  · have hm := (smTxn.1 (hs _ (List.getElem_mem hi))).2.1.1
    have ht' := (smTxn.1 ht).2.1.1
    refine An.lb ?_
    dsimp only
    rw [rd_get _ _ _ hi]
    exact An.dec (fun _ => An.ite (by omega) (An.bne (fun _ => An.beq (fun _ => An.bind (Meets_a hm ht') fun _ _ => An.bif (fun _ => An.ret trivial) fun _ => An.ret rfl) fun _ => An.beq (fun _ => An.dec (fun _ => An.bind (Meets_a hm ht') fun _ _ => An.bif (fun _ => An.ret trivial) fun _ => An.ret rfl) fun _ => An.ret rfl) fun _ => An.ret rfl) fun _ => An.ret rfl)) fun h => absurd hi (by omega)
  · exact An.lb (An.dec (fun h => absurd h (by dsimp only; omega)) fun _ => An.ret trivial)
theorem InOf_a {t : dTxn} {l : List dTxn} (ht : Sm tTxn t) (hl : l.length ≤ 1000000) (hs : ∀ x ∈ l, Sm tTxn x) : An (spec_InOf_k (t, l)) (fun _ => True) := by
  refine An.fn (An.bind2 (P := fun _ => True) (P' := fun _ => True) (An.go (n := l.length) (by omega) (fun i hi => ?_) ?_) (fun _ _ => An.ret trivial) fun _ _ => An.ret trivial)
  · have hm := hs _ (List.getElem_mem hi)
    refine An.lb ?_
    dsimp only
    rw [rd_get _ _ _ hi]
    exact An.dec (fun _ => An.ite (by omega) (An.beq (fun _ => An.ite (by omega) (An.bind (Ahead_a hm ht) fun _ _ => An.bif (fun _ => An.ret trivial) fun _ => An.ret rfl)) fun _ => An.ite (by omega) (An.beq (fun _ => An.ite (by omega) (An.bind (Ahead_a hm ht) fun _ _ => An.bif (fun _ => An.ret trivial) fun _ => An.ret rfl)) fun _ => An.ret rfl))) fun h => absurd hi (by omega)
  · exact An.lb (An.dec (fun h => absurd h (by dsimp only; omega)) fun _ => An.ret trivial)
noncomputable def outOfB (t : dTxn) (l : List dTxn) : Bool := l.any fun x => x.2.1 == 3 && aheadB t x
theorem any_get {α : Type} {f : α → Bool} {l : List α} : (∀ i, i < l.length → ∀ (h : i < l.length), f l[i] = false) ↔ l.any f = false := by
  rw [List.any_eq_false]
  constructor
  · exact fun h x hx => by simpa using forall_mem_get (p := fun a => f a = false).1 (fun i hi => h i hi hi) x hx
  · exact fun h i _ hi => by simpa using h _ (List.getElem_mem hi)
theorem OutOf_a {t : dTxn} {l : List dTxn} (ht : Sm tTxn t) (hl : l.length ≤ 1000000) (hs : ∀ x ∈ l, Sm tTxn x) : An (spec_OutOf_k (t, l)) (fun z => z = outOfB t l) := by
  refine An.fn (An.bind2 (An.all (n := l.length) (by omega) (fun i => ∀ (h : i < l.length), (l[i].2.1 == 3 && aheadB t l[i]) = false) (fun i hi => ?_) ?_) (fun _ hv => An.ret ?_) fun _ hv => An.ret (any_get.1 hv).symm)
  · have hm := hs _ (List.getElem_mem hi)
    refine An.lb ?_
    dsimp only
    rw [rd_get _ _ _ hi]
    refine An.dec (fun _ => An.ite (by omega) (An.bif (fun h3 => An.ite (by omega) (An.bind (Ahead_a ht hm) fun y hy => An.bif (fun h => An.ret fun h2 => ?_) fun h => An.ret ⟨rfl, fun _ => ?_⟩)) fun h => An.ret ⟨rfl, fun _ => ?_⟩)) fun h => absurd hi (by omega)
    · have := h2 hi
      rw [h3, ← hy, h] at this
      cases this
    · rw [← hy, h, Bool.and_false]
    · rw [h]; rfl
  · exact An.lb (An.dec (fun h => absurd h (by dsimp only; omega)) fun _ => An.ret trivial)
  · cases h : outOfB t l with
    | true => rfl
    | false => exact absurd (any_get.2 h) hv
theorem Danger_9 {t p : dTxn} {l : List dTxn} (n : Int) (ht : Sm tTxn t) (hp : Sm tTxn p) (hl : l.length ≤ 1000000) (hs : ∀ x ∈ l, Sm tTxn x) : An (spec_Danger_j5000009 (l, n, t, p) ()) (fun _ => True) := by
  have h2 : An (lpK spec_Danger_b2 (l, n, t, p) 0) (Sum.elim (fun _ => True) fun _ => True) := by
    refine An.go (n := l.length) (by omega) (fun i hi => ?_) ?_
    · have hm := hs _ (List.getElem_mem hi)
      refine An.lb ?_
      dsimp only
      rw [rd_get _ _ _ hi]
      exact An.dec (fun _ => An.beq (fun _ => An.bind (Ahead_a hp ht) fun _ _ => An.bif (fun _ => An.ite (by omega) (An.beq (fun _ => An.bne (fun _ => An.bind (Ahead_a hm hp) fun _ _ => An.bif (fun _ => An.ret trivial) fun _ => An.ret rfl) fun _ => An.ret rfl) fun _ => An.ret rfl)) fun _ => An.ret trivial) fun _ => An.ret trivial) fun _ => An.ret trivial
    · exact An.lb (An.dec (fun h => absurd h (by dsimp only; omega)) fun _ => An.ret trivial)
  have h3 : An (fun k => lpK spec_Danger_b2 (l, n, t, p) 0 (Sum.elim (fun _ => k (Sum.inl ())) fun _ => k (Sum.inr ()))) (fun _ : Unit ⊕ Unit => True) := An.bind2 h2 (fun _ _ => An.ret trivial) fun _ _ => An.ret trivial
  exact An.lb (An.beq (fun _ => An.bind (Ahead_a hp ht) fun _ _ => An.bif (fun _ => An.bind (Ahead_a ht hp) fun _ _ => An.bif (fun _ => An.ret trivial) fun _ => h3) fun _ => h3) fun _ => h3)
theorem Danger_a {t : dTxn} {l : List dTxn} (ht : Sm tTxn t) (hl : l.length ≤ 1000000) (hs : ∀ x ∈ l, Sm tTxn x) : An (spec_Danger_k (t, l)) (fun _ => True) := by
  have h2 : An (lpK spec_Danger_b0 (l, t) 0) (Sum.elim (fun _ => True) fun _ => True) := by
    refine An.go (n := l.length) (by omega) (fun i hi => ?_) ?_
    · have hm := hs _ (List.getElem_mem hi)
      have h9 : An (fun k => spec_Danger_j5000009 (l, (i : Int), t, l[i]) () (Sum.elim (fun _ => k (Sum.inr (Sum.inl (i : Int)))) fun _ => k (Sum.inl (W ((i : Int) + 1))))) (Sum.elim (fun z => z = W ((i : Int) + 1)) (Sum.elim (fun _ : Int => True) fun _ : Int => True)) :=
        An.bind2 (P := fun _ => True) (P' := fun _ => True) ((Danger_9 _ ht hm hl hs).mono fun z _ => by cases z <;> trivial) (fun _ _ => An.ret trivial) fun _ _ => An.ret rfl
      refine An.lb ?_
      dsimp only
      rw [rd_get _ _ _ hi]
      exact An.dec (fun _ => An.ite (by omega) (An.beq (fun _ => An.bif (fun _ => An.bind (Ahead_a ht hm) fun _ _ => An.bif (fun _ => An.ret trivial) fun _ => h9) fun _ => h9) fun _ => An.beq (fun _ => An.bif (fun _ => An.bind (Ahead_a ht hm) fun _ _ => An.bif (fun _ => An.ret trivial) fun _ => h9) fun _ => h9) fun _ => h9)) fun h => absurd hi (by omega)
    · exact An.lb (An.dec (fun h => absurd h (by dsimp only; omega)) fun _ => An.ret trivial)
  have h3 : An (fun k => lpK spec_Danger_b0 (l, t) 0 (Sum.elim (fun _ => k true) fun _ => k false)) (fun _ : Bool => True) := An.bind2 h2 (fun _ _ => An.ret trivial) fun _ _ => An.ret trivial
  exact An.fn (An.bind (InOf_a ht hl hs) fun _ _ => An.bif (fun _ => An.bind (OutOf_a ht hl hs) fun _ _ => An.bif (fun _ => An.ret trivial) fun _ => h3) fun _ => h3)
theorem ReadyDanger_a {t : dTxn} {l : List dTxn} (ht : Sm tTxn t) (hl : l.length ≤ 1000000) (hs : ∀ x ∈ l, Sm tTxn x) : An (spec_ReadyDanger_k (t, l)) (fun _ => True) := by
  refine An.fn (An.bind (Danger_a ht hl hs) fun _ _ => An.bif (fun _ => An.ret trivial) fun _ => An.bind (InOf_a ht hl hs) fun y2 _ => An.bind2 (P := fun _ => True) (P' := fun _ => True) (An.go (n := l.length) (by omega) (fun i hi => ?_) ?_) (fun _ _ => An.ret trivial) fun _ _ => An.ret trivial)
  · have hm := hs _ (List.getElem_mem hi)
    refine An.lb ?_
    dsimp only
    rw [rd_get _ _ _ hi]
    refine An.dec (fun _ => An.ite (by omega) (An.bne (fun _ => An.ret rfl) fun _ => An.bind (Ahead_a ht hm) fun _ _ => An.nt (fun _ => An.ret rfl) fun _ => An.bif (fun _ => An.ret trivial) fun _ => An.bind2 (P := fun _ => True) (P' := fun _ => True) (An.go (n := l.length) (by omega) (fun k hk => ?_) ?_) (fun _ _ => An.ret trivial) fun _ _ => An.ret rfl)) fun h => absurd hi (by omega)
    · have hq := hs _ (List.getElem_mem hk)
      refine An.lb ?_
      dsimp only
      rw [rd_get _ _ _ hk]
      exact An.dec (fun _ => An.ite (by omega) (An.beq (fun _ => An.ite (by omega) (An.bne (fun _ => An.ite (by omega) (An.bind (Ahead_a hm hq) fun _ _ => An.bif (fun _ => An.ret trivial) fun _ => An.ret rfl)) fun _ => An.ret rfl)) fun _ => An.ret rfl)) fun h => absurd hk (by omega)
    · exact An.lb (An.dec (fun h => absurd h (by dsimp only; omega)) fun _ => An.ret trivial)
  · exact An.lb (An.dec (fun h => absurd h (by dsimp only; omega)) fun _ => An.ret trivial)
theorem l11Full_a (b : dBase) : An (spec_l11Full_k b) (fun z => z = false → b.2.1.length < 12 ∧ b.1.length ≤ 100 ∧ b.2.2.2.1 < 9999) :=
  An.fn (An.dec (fun _ => An.ret nofun) fun h1 => An.dec (fun _ => An.ret nofun) fun h2 => An.ret fun h3 => ⟨by omega, by omega, by have := of_decide_eq_false h3; omega⟩)
theorem Judge_a {e : dEngine} (h : EI e) (id : Int) : An (spec_Judge_k (e, id)) (fun z => (z = 1 ∨ ∃ i, ∃ h : i < e.2.length, e.2[i].1 = id) ∧ (z = 0 → e.1.2.1.length < 12 ∧ e.1.1.length ≤ 100 ∧ e.1.2.2.2.1 < 9999)) := by
  have hs := smEngine.1 (sm_engine h)
  have hb := smBase.1 hs.1
  refine An.fn (An.bind (OpenAt_a hs.2.1 id) fun y g => An.dec (fun _ => An.ret ⟨.inl rfl, nofun⟩) fun h1 => ?_)
  rcases g with ⟨rfl, _⟩ | ⟨i, hi, rfl, g⟩
  · exact absurd h1 (by decide)
  have hall : ∀ x ∈ e.1.2.1 ++ e.1.2.2.1, Sm tTxn x := fun x hx => by
    rcases List.mem_append.1 hx with hx | hx
    · exact hb.2.1.2 x hx
    · exact hb.2.2.2 x hx
  have k2 := h.1.2.1
  have k3 := h.1.2.2.1
  have ha : (e.1.2.1 ++ e.1.2.2.1).length ≤ 1000000 := by simp; omega
  have hx : ∃ i, ∃ h : i < e.2.length, e.2[i].1 = id := ⟨i, hi, g⟩
  rw [rd_get _ _ _ hi]
  have hm := hs.2.2 _ (List.getElem_mem hi)
  exact An.bind (P := fun z => z = e.1.2.1 ++ e.1.2.2.1) (An.fn (An.ite (by simp [maxLen_eq]; omega) (An.ite (by simp [maxLen_eq]; omega) (An.ret rfl)))) fun y2 h2 => by
    subst h2
    exact An.ite (by dsimp only; omega) (An.bind (Blocked_a hm ha hall) fun _ _ => An.bif (fun _ => An.ret ⟨.inr hx, nofun⟩) fun _ => An.ite (by dsimp only; omega) (An.bind (Danger_a hm ha hall) fun _ _ => An.bif (fun _ => An.ret ⟨.inr hx, nofun⟩) fun _ => An.bind (l11Full_a _) fun _ h5 => An.bif (fun _ => An.ret ⟨.inr hx, nofun⟩) fun h6 => An.ret ⟨.inr hx, fun _ => h5 h6⟩))
end Go.VE
namespace Go.VE
set_option linter.unusedVariables false
set_option linter.unusedSimpArgs false
/-- Those of a list whose places pass. -/
def selI {ε : Type} (xs : List ε) (f : Nat → Bool) : Nat → List ε
  | 0 => []
  | n + 1 => selI xs f n ++ (match xs[n]? with
    | some x => bif f n then [x] else []
    | none => [])
theorem selI_sub {ε : Type} (xs : List ε) (f : Nat → Bool) : ∀ n, (selI xs f n).Sublist (xs.take n)
  | 0 => by simp [selI]
  | n + 1 => by
    have ih := selI_sub xs f n
    simp only [selI]
    cases h : xs[n]? with
    | none => simpa using ih.trans (List.take_sublist_take_left (Nat.le_succ n))
    | some x =>
      obtain ⟨hn, rfl⟩ := List.getElem?_eq_some_iff.1 h
      rw [List.take_succ_eq_append_getElem hn]
      cases f n
      · show (selI xs f n ++ []).Sublist _; rw [List.append_nil]; exact ih.trans (List.sublist_append_left _ _)
      · exact ih.append (List.Sublist.refl _)
theorem An.filtI {α ε : Type} {b : LB α (Int × List ε) ((Int × List ε) ⊕ (Int × List ε))} {u : α} (xs : List ε) (f : Nat → Bool) (hl : xs.length ≤ 1000000)
    (hs : ∀ i (hi : i < xs.length) acc, acc.length ≤ i → An (b.f u ((i : Int), acc)) (Sum.elim (fun z => z = (W ((i : Int) + 1), bif f i then acc ++ [xs[i]] else acc)) fun _ => False))
    (he : ∀ acc, An (b.f u ((xs.length : Int), acc)) (Sum.elim (fun _ => False) fun z => z.2 = acc)) : An (lpK b u (0, [])) (fun z => z.2 = selI xs f xs.length) := by
  refine An.run (n := xs.length) (fun i => ((i : Int), selI xs f i)) (by omega) rfl (fun i hi => (hs i hi _ ?_).mono fun v hv => ?_) ((he _).mono fun v hv => ?_)
  · have := (selI_sub xs f i).length_le
    simp only [List.length_take] at this
    omega
  · rcases v with v | v
    · refine Eq.trans hv ?_
      rw [wsucc (by omega)]
      simp only [selI, List.getElem?_eq_getElem hi]
      cases f i <;> simp
    · exact hv.elim
  · rcases v with v | v
    · exact hv.elim
    · exact hv
def oldF (cs : Int) (open' : List dTxn) : Int := open'.foldl (fun n t => bif decide (t.2.2.1 < n) then t.2.2.1 else n) cs
theorem OldestOf_a {b : dBase} {l : List dTxn} (hl : l.length ≤ 1000000) : An (spec_OldestOf_k (b, l)) (fun z => z = oldF b.2.2.2.1 l) := by
  refine An.fn (An.bind (P := fun z => z.1 = oldF b.2.2.2.1 l) (An.run (n := l.length) (fun i => (oldF b.2.2.2.1 (l.take i), (i : Int))) (by omega) rfl (fun i hi => ?_) ?_) fun v hv => An.ret hv)
  · refine An.lb ?_
    dsimp only
    rw [rd_get _ _ _ hi]
    have e : oldF b.2.2.2.1 (l.take (i + 1)) = (bif decide (l[i].2.2.1 < oldF b.2.2.2.1 (l.take i)) then l[i].2.2.1 else oldF b.2.2.2.1 (l.take i)) := by
      rw [List.take_succ_eq_append_getElem hi, oldF, List.foldl_append]; rfl
    refine An.dec (fun _ => An.ite (by omega) (An.bif (fun h => An.ite (by omega) (An.ret ?_)) fun h => An.ret ?_)) fun h => absurd hi (by omega)
    all_goals
      simp only [Sum.elim_inl]
      rw [wsucc (by omega), e, h]; rfl
  · refine An.lb (An.dec (fun h => absurd h (by dsimp only; omega)) fun _ => An.ret ?_)
    simp only [Sum.elim_inr, List.take_length]
/-- The place of the version of a key that is seen among the first ones. -/
noncomputable def atN (l : List dVersion) (key : ByteArray) (snap : Int) : Nat → Int
  | 0 => -1
  | i + 1 => match l[i]? with
    | some v => bif strEq v.1 key && (decide (v.2.2.2 ≤ snap) && (decide (atN l key snap i < 0) || decide (v.2.2.2 > (rd zVersion l (atN l key snap i)).2.2.2))) then (i : Int) else atN l key snap i
    | none => atN l key snap i
theorem atN_r (l : List dVersion) (key : ByteArray) (snap : Int) : ∀ n, n ≤ l.length → atN l key snap n = -1 ∨ 0 ≤ atN l key snap n ∧ atN l key snap n < (n : Int)
  | 0, _ => .inl rfl
  | n + 1, h => by
    have ih := atN_r l key snap n (by omega)
    simp only [atN, List.getElem?_eq_getElem (show n < l.length by omega)]
    cases (strEq l[n].1 key && (decide (l[n].2.2.2 ≤ snap) && (decide (atN l key snap n < 0) || decide (l[n].2.2.2 > (rd zVersion l (atN l key snap n)).2.2.2))))
    · simp only [cond_false]; omega
    · simp only [cond_true]; omega
theorem l06At_a {l : List dVersion} (hl : l.length ≤ 1000000) (key : ByteArray) (snap : Int) : An (spec_l06At_k (l, key, snap)) (fun z => z = atN l key snap l.length) := by
  refine An.fn (An.bind (P := fun z => z.1 = atN l key snap l.length) (An.run (n := l.length) (fun i => (atN l key snap i, (i : Int))) (by omega) rfl (fun i hi => ?_) ?_) fun v hv => An.ret hv)
  · have hr := atN_r l key snap i (by omega)
    refine An.lb ?_
    dsimp only
    rw [rd_get _ _ _ hi]
    have e : atN l key snap (i + 1) = (bif strEq l[i].1 key && (decide (l[i].2.2.2 ≤ snap) && (decide (atN l key snap i < 0) || decide (l[i].2.2.2 > (rd zVersion l (atN l key snap i)).2.2.2))) then (i : Int) else atN l key snap i) := by
      simp only [atN, List.getElem?_eq_getElem hi]
    have g : ∀ x, x = atN l key snap (i + 1) → An (fun k => k (Sum.inl (x, W ((i : Int) + 1)))) (Sum.elim (fun z : Int × Int => z = (atN l key snap (i + 1), ((i + 1 : Nat) : Int))) fun z : Int × Int => z.1 = atN l key snap l.length) := fun x hx => An.ret (by rw [hx, wsucc (by omega)]; rfl)
    refine An.dec (fun _ => An.ite (by omega) (An.bif (fun h1 => An.ite (by omega) (An.bif (fun h2 => An.bif (fun h3 => g _ ?_) fun h3 => An.ite (by omega) (An.ite (by have := of_decide_eq_false h3; omega) (An.bif (fun h4 => g _ ?_) fun h4 => g _ ?_))) fun h2 => g _ ?_)) fun h1 => g _ ?_)) fun h => absurd hi (by omega)
    all_goals rw [e]
    · rw [h1, h2, h3]; rfl
    · rw [h1, h2, h3, h4]; rfl
    · rw [h1, h2, h3, h4]; rfl
    · rw [h1, h2]; rfl
    · rw [h1]; rfl
  · exact An.lb (An.dec (fun h => absurd h (by dsimp only; omega)) fun _ => An.ret rfl)
noncomputable def someF (l : List dVersion) (snap : Int) : List dVersion := selI l (fun i => match l[i]? with
  | some v => decide (v.2.2.2 > snap) || (atN l v.1 snap l.length == (i : Int))
  | none => false) l.length
noncomputable def cntF (l : List dVersion) (key : ByteArray) : Nat := (l.filter fun v => strEq v.1 key).length
noncomputable def trF (l : List dVersion) (snap : Int) : List dVersion := (someF l snap).filter fun v => !v.2.2.1 || (decide (v.2.2.2 > snap) || decide (((cntF (someF l snap) v.1 : Nat) : Int) > 1))
theorem someF_len (l : List dVersion) (snap : Int) : (someF l snap).length ≤ l.length := by
  have := (selI_sub l (fun i => match l[i]? with
    | some v => decide (v.2.2.2 > snap) || (atN l v.1 snap l.length == (i : Int))
    | none => false) l.length).length_le
  rwa [List.take_length] at this
theorem getD_at {α : Type} (d : α) (xs : List α) (i : Nat) (hi : i < xs.length) : xs.getD ((i : Int).toNat) d = xs[i] := by
  simp [List.getD, hi]
theorem Trimmed_a {l : List dVersion} (hl : l.length ≤ 1000000) (snap : Int) : An (spec_Trimmed_k (l, snap)) (fun z => z = trF l snap) := by
  refine An.fn (An.bind (An.filtI l (fun i => match l[i]? with
    | some v => decide (v.2.2.2 > snap) || (atN l v.1 snap l.length == (i : Int))
    | none => false) (by omega) (fun i hi acc ha => ?_) fun acc => ?_) fun z1 h1 => An.bind (An.filt (someF l snap) (fun v => !v.2.2.1 || (decide (v.2.2.2 > snap) || decide (((cntF (someF l snap) v.1 : Nat) : Int) > 1))) [] (by have := someF_len l snap; omega) (fun i hi acc ha => ?_) fun acc => ?_) fun z2 h2 => An.ret (by rw [h2]; rfl))
  · refine An.lb ?_
    dsimp only
    rw [rd_get _ _ _ hi]
    have hf : (match l[i]? with
      | some v => decide (v.2.2.2 > snap) || (atN l v.1 snap l.length == (i : Int))
      | none => false) = (decide (l[i].2.2.2 > snap) || (atN l l[i].1 snap l.length == (i : Int))) := by rw [List.getElem?_eq_getElem hi]
    rw [hf]
    refine An.dec (fun _ => An.ite (by omega) (An.bind (l06At_a hl _ _) fun y hy => An.ite (by omega) (An.bif (fun h3 => An.ite (by omega) (An.ite (by simp [maxLen_eq]; omega) (An.ret ?_))) fun h3 => An.bif (fun h4 => An.ite (by omega) (An.ite (by simp [maxLen_eq]; omega) (An.ret ?_))) fun h4 => An.ret ?_))) fun h => absurd hi (by omega)
    · rw [h3]; rfl
    · rw [hy] at h4; rw [h3, h4]; rfl
    · rw [hy] at h4; rw [h3, h4]; rfl
  · exact An.lb (An.dec (fun h => absurd h (by dsimp only; omega)) fun _ => An.ret rfl)
  · have e1 : z1.2 = someF l snap := h1
    have hL := someF_len l snap
    refine An.lb ?_
    dsimp only
    rw [e1, getD_at _ _ _ hi]
    generalize someF l snap = s at *
    simp at ha
    refine An.dec (fun _ => An.bind (P := fun z => z.1 = ((cntF s s[i].1 : Nat) : Int)) (An.run (n := s.length) (fun k => (((cntF (s.take k) s[i].1 : Nat) : Int), (k : Int))) (by omega) rfl (fun k hk => ?_) ?_) fun z4 h4 => An.ite (by omega) ?_) fun h => absurd hi (by omega)
    · refine An.lb ?_
      dsimp only
      rw [getD_at _ _ _ hi, getD_at _ _ _ hk]
      have e : cntF (s.take (k + 1)) s[i].1 = cntF (s.take k) s[i].1 + (bif strEq s[k].1 s[i].1 then 1 else 0) := by
        rw [List.take_succ_eq_append_getElem hk, cntF, List.filter_append, List.length_append, cntF]
        cases h : strEq s[k].1 s[i].1 <;> simp [h]
      have hc : cntF (s.take k) s[i].1 ≤ k := by
        have := List.length_filter_le (fun v : dVersion => strEq v.1 s[i].1) (s.take k)
        simp only [List.length_take] at this
        unfold cntF; omega
      refine An.dec (fun _ => An.ite (by omega) (An.ite (by omega) (An.bif (fun h => An.ret ?_) fun h => An.ret ?_))) fun h => absurd hk (by omega)
      all_goals
        simp only [Sum.elim_inl]
        rw [e, h, wsucc (i := k) (by omega)]
      · rw [wsucc (by omega)]; rfl
      · rfl
    · refine An.lb (An.dec (fun h => absurd h (by dsimp only; omega)) fun _ => An.ret ?_)
      simp only [Sum.elim_inr, List.take_length]
    · rw [h4]
      refine An.bif (fun h => An.ite (by omega) (An.ite (by simp [maxLen_eq]; omega) (An.ret ?_))) fun h => An.ite (by omega) (An.bif (fun h5 => An.ite (by omega) (An.ite (by simp [maxLen_eq]; omega) (An.ret ?_))) fun h5 => An.bif (fun h6 => An.ite (by omega) (An.ite (by simp [maxLen_eq]; omega) (An.ret ?_))) fun h6 => An.ret ?_)
      · simp only [Sum.elim_inl]; rw [h]; rfl
      · simp only [Sum.elim_inl]; rw [h, h5]; rfl
      · simp only [Sum.elim_inl]; rw [h, h5, h6]; rfl
      · simp only [Sum.elim_inl]; rw [h, h5, h6]; rfl
  · rw [show z1.2 = someF l snap from h1]
    exact An.lb (An.dec (fun h => absurd h (by dsimp only; omega)) fun _ => An.ret rfl)
end Go.VE
namespace Go.VE
set_option linter.unusedVariables false
set_option linter.unusedSimpArgs false
noncomputable def tdF (b : dBase) (o : List dTxn) : dBase := (trF b.1 (oldF b.2.2.2.1 o), b.2.1.filter (fun t => decide (t.2.2.2.1 > oldF b.2.2.2.1 o)), b.2.2.1, b.2.2.2)
theorem Tidied_a {b : dBase} (hs : Sm tBase b) {o : List dTxn} (ho : o.length ≤ 1000000) : An (spec_Tidied_k (b, o)) (fun z => z = tdF b o) := by
  have hs' := smBase.1 hs
  refine An.fn (An.bind (l09Copy_a hs) fun y1 h1 => An.bind (OldestOf_a ho) fun y2 h2 => An.bind (An.filt b.2.1 (fun t => decide (t.2.2.2.1 > oldF b.2.2.2.1 o)) [] hs'.2.1.1 (fun i hi acc ha => ?_) fun acc => ?_) fun z3 h3 => An.bind (Trimmed_a hs'.1.1 _) fun y4 h4 => An.ret ?_)
  · subst h2
    refine An.lb ?_
    dsimp only
    rw [rd_get _ _ _ hi]
    simp at ha
    refine An.dec (fun _ => An.ite (by omega) (An.bif (fun h => An.ite (by omega) (An.bind (l07Copy_a (hs'.2.1.2 _ (List.getElem_mem hi))) fun y hy => ?_)) fun h => An.ret (by simp only [h]; rfl))) fun h => absurd hi (by omega)
    subst hy
    exact An.ite (by simp [maxLen_eq]; omega) (An.ret (by simp only [h]; rfl))
  · exact An.lb (An.dec (fun h => absurd h (by dsimp only; omega)) fun _ => An.ret rfl)
  · subst h1; rw [h4, h3, h2]; rfl
noncomputable def guF (b : dBase) (name : ByteArray) : dBase := (b.1, b.2.1, b.2.2.1.filter (fun t => !(strEq t.2.2.2.2.2.2.2 name)), b.2.2.2)
theorem GivenUp_a {b : dBase} (hs : Sm tBase b) (name : ByteArray) : An (spec_GivenUp_k (b, name)) (fun z => z = guF b name) := by
  have hs' := smBase.1 hs
  refine An.fn (An.bind (l09Copy_a hs) fun y1 h1 => An.bind (An.filt b.2.2.1 (fun t => !(strEq t.2.2.2.2.2.2.2 name)) [] hs'.2.2.1 (fun i hi acc ha => ?_) fun acc => ?_) fun z2 h2 => An.ret ?_)
  · refine An.lb ?_
    dsimp only
    rw [rd_get _ _ _ hi]
    simp at ha
    refine An.dec (fun _ => An.ite (by omega) (An.bif (fun h => An.ite (by omega) (An.bind (l07Copy_a (hs'.2.2.2 _ (List.getElem_mem hi))) fun y hy => ?_)) fun h => An.ret (by simp only [h]; rfl))) fun h => absurd hi (by omega)
    subst hy
    exact An.ite (by simp [maxLen_eq]; omega) (An.ret (by simp only [h]; rfl))
  · exact An.lb (An.dec (fun h => absurd h (by dsimp only; omega)) fun _ => An.ret rfl)
  · subst h1; rw [h2]; rfl
/-- The place of a name. -/
def AtN (l : List dTxn) (name : ByteArray) (z : Int) : Prop := (z = -1 ∧ ∀ t ∈ l, t.2.2.2.2.2.2.2 ≠ name) ∨ ∃ i, ∃ h : i < l.length, z = (i : Int) ∧ l[i].2.2.2.2.2.2.2 = name ∧ ∀ j (hj : j < l.length), j < i → l[j].2.2.2.2.2.2.2 ≠ name
theorem ReadyAt_a {b : dBase} (hl : b.2.2.1.length ≤ 1000000) (name : ByteArray) : An (spec_ReadyAt_k (b, name)) (AtN b.2.2.1 name) := by
  refine An.fn (An.bind2 (P := fun z => ∃ i, ∃ h : i < b.2.2.1.length, z.1 = (i : Int) ∧ b.2.2.1[i].2.2.2.2.2.2.2 = name ∧ ∀ j (hj : j < b.2.2.1.length), j < i → b.2.2.1[j].2.2.2.2.2.2.2 ≠ name) (P' := fun _ => ∀ t ∈ b.2.2.1, t.2.2.2.2.2.2.2 ≠ name) (An.loop (b.2.2.1.length + 1) (fun i x => x = (i : Int) ∧ i ≤ b.2.2.1.length ∧ ∀ j (h : j < b.2.2.1.length), j < i → b.2.2.1[j].2.2.2.2.2.2.2 ≠ name) (by omega) ⟨rfl, by omega, fun j _ h => by omega⟩ ?_)
    (fun z hz => An.ret (.inr hz)) fun z hz => An.ret (.inl ⟨rfl, hz⟩))
  rintro i y ⟨rfl, h1, h2⟩
  refine An.lb (An.dec (fun h => ?_) fun h => An.ret (forall_mem_get.1 fun j hj => h2 j hj (by dsimp only at h; omega)))
  dsimp only at h ⊢
  have hi : i < b.2.2.1.length := by omega
  refine An.ite (by omega) ?_
  rw [rd_get _ _ _ hi]
  refine An.bif (fun h3 => An.ret ⟨i, hi, rfl, strEq_iff.1 h3, h2⟩) fun h3 => An.ret ⟨by omega, wsucc (by omega), by omega, fun j hj hji => ?_⟩
  by_cases e : j = i
  · subst e; exact fun h => by rw [h, strEq_refl] at h3; cases h3
  · exact h2 j hj (by omega)
noncomputable def vLe (v y : dVersion) : Bool := strLess y.1 v.1 || (strEq y.1 v.1 && decide (y.2.2.2 ≤ v.2.2.2))
noncomputable def insV (out : List dVersion) (v : dVersion) : List dVersion := out.takeWhile (vLe v) ++ v :: out.dropWhile (vLe v)
noncomputable def pvF (l : List dVersion) (w : List dWrite) (cs : Int) : List dVersion := w.foldl (fun out x => insV out (x.1, x.2.1, x.2.2, cs)) l
theorem insV_len (out : List dVersion) (v : dVersion) : (insV out v).length = out.length + 1 := by
  have h := congrArg List.length (List.takeWhile_append_dropWhile (p := vLe v) (l := out))
  simp only [List.length_append] at h
  simp only [insV, List.length_append, List.length_cons]
  omega
theorem pvF_len (l : List dVersion) (w : List dWrite) (cs : Int) : (pvF l w cs).length = l.length + w.length := by
  induction w generalizing l with
  | nil => simp [pvF]
  | cons a w ih =>
    have := ih (insV l (a.1, a.2.1, a.2.2, cs))
    rw [insV_len] at this
    simp only [pvF, List.foldl_cons, List.length_cons] at this ⊢
    omega
theorem takeWhile_len {α : Type} (p : α → Bool) (l : List α) : ∀ i, i ≤ l.length → (∀ j (h : j < l.length), j < i → p l[j] = true) → (∀ h : i < l.length, p l[i] = false) → l.takeWhile p = l.take i ∧ l.dropWhile p = l.drop i := by
  induction l with
  | nil => intro i _ _ _; simp
  | cons a l ih =>
    intro i hi h1 h2
    cases i with
    | zero =>
      have := h2 (by simp)
      simp only [List.getElem_cons_zero] at this
      simp [List.takeWhile_cons, List.dropWhile_cons, this]
    | succ i =>
      have ha := h1 0 (by simp) (by omega)
      simp only [List.getElem_cons_zero] at ha
      have := ih i (by simpa using hi) (fun j hj hji => h1 (j + 1) (Nat.succ_lt_succ hj) (by omega)) (fun h => h2 (Nat.succ_lt_succ h))
      simp [List.takeWhile_cons, List.dropWhile_cons, ha, this.1, this.2]
theorem PutVersions_a {l : List dVersion} {w : List dWrite} (hl : l.length ≤ 100000) (hw : w.length ≤ 100000) (cs : Int) : An (spec_PutVersions_k (l, w, cs)) (fun z => z = pvF l w cs) := by
  refine An.fn (An.ite (by simp [maxLen_eq]; omega) (An.bind (P := fun z => z.2 = pvF l w cs) (An.run (n := w.length) (fun i => ((i : Int), pvF l (w.take i) cs)) (by omega) rfl (fun i hi => ?_) ?_) fun v hv => An.ret hv))
  · have hL := pvF_len l (w.take i) cs
    have e : pvF l (w.take (i + 1)) cs = insV (pvF l (w.take i) cs) (w[i].1, w[i].2.1, w[i].2.2, cs) := by
      rw [List.take_succ_eq_append_getElem hi, pvF, List.foldl_append]; rfl
    rw [e]
    generalize pvF l (w.take i) cs = out at hL ⊢
    simp only [List.length_take] at hL
    refine An.lb ?_
    dsimp only
    rw [rd_get _ _ _ hi]
    generalize hv : (w[i].1, w[i].2.1, w[i].2.2, cs) = v
    have e1 : w[i].1 = v.1 := by rw [← hv]
    have e2 : cs = v.2.2.2 := by rw [← hv]
    refine An.dec (fun _ => An.ite (by omega) (An.ite (by omega) (An.ite (by omega) (An.bind (P := fun z => ∃ k : Nat, z.1 = (k : Int) ∧ k ≤ out.length ∧ z.2 = out.takeWhile (vLe v) ∧ out.drop k = out.dropWhile (vLe v)) (An.loop (out.length + 1) (fun k x => x = ((k : Int), out.take k) ∧ k ≤ out.length ∧ ∀ j (h : j < out.length), j < k → vLe v out[j] = true) (by omega) ⟨rfl, by omega, fun j _ h => by omega⟩ ?_) fun z2 h2 => ?_)))) fun h => absurd hi (by omega)
    · rintro k x ⟨rfl, k1, k2⟩
      have fin : (∀ h : k < out.length, vLe v out[k] = false) → ∃ k' : Nat, (k : Int) = (k' : Int) ∧ k' ≤ out.length ∧ out.take k = out.takeWhile (vLe v) ∧ out.drop k' = out.dropWhile (vLe v) := fun h => by
        have := takeWhile_len (vLe v) out k k1 k2 h
        exact ⟨k, rfl, k1, this.1.symm, this.2.symm⟩
      refine An.lb ?_
      dsimp only
      refine An.dec (fun h => ?_) fun h => An.ret (fin fun h' => absurd h' (by omega))
      have hk : k < out.length := by omega
      have nx : vLe v out[k] = true → An (fun q => q (Sum.inl (W ((k : Int) + 1), out.take k ++ [out[k]]))) (Sum.elim (fun x : Int × List dVersion => k < out.length + 1 ∧ x = (((k + 1 : Nat) : Int), out.take (k + 1)) ∧ k + 1 ≤ out.length ∧ ∀ j (h : j < out.length), j < k + 1 → vLe v out[j] = true) fun z : Int × List dVersion => ∃ k : Nat, z.1 = (k : Int) ∧ k ≤ out.length ∧ z.2 = out.takeWhile (vLe v) ∧ out.drop k = out.dropWhile (vLe v)) := fun h => by
        refine An.ret ⟨by omega, by rw [wsucc (by omega), List.take_succ_eq_append_getElem hk], by omega, fun j hj hjk => ?_⟩
        by_cases e : j = k
        · subst e; exact h
        · exact k2 j hj (by omega)
      rw [getD_at _ _ _ hk]
      refine An.ite (by omega) (An.bif (fun h1 => An.ite (by omega) (An.ite (by simp [maxLen_eq]; omega) (nx (by rw [vLe, h1]; rfl)))) fun h1 => An.ite (by omega) (An.bif (fun h2 => An.ite (by omega) (An.dec (fun h3 => An.ite (by omega) (An.ite (by simp [maxLen_eq]; omega) (nx (by rw [vLe, h2]; simp [h3])))) fun h3 => An.ret (fin fun _ => by rw [vLe, h1]; simp; exact fun _ => by omega))) fun h2 => An.ret (fin fun _ => by rw [vLe, h1, h2]; rfl)))
    · obtain ⟨k, h3, h4, h5, h6⟩ := h2
      have hl2 := (List.takeWhile_sublist (vLe v) (l := out)).length_le
      rw [h5, h3, show ((k : Int).toNat) = k by omega, h6]
      have h7 := congrArg List.length h6
      rw [List.length_drop] at h7
      refine An.ite (by simp [maxLen_eq]; omega) (An.ite (by omega) (An.ite (by simp [maxLen_eq]; omega) (An.ret ?_)))
      simp only [Sum.elim_inl]
      rw [wsucc (by omega), insV]; simp
  · refine An.lb (An.dec (fun h => absurd h (by dsimp only; omega)) fun _ => An.ret ?_)
    simp only [Sum.elim_inr, List.take_length]
end Go.VE
namespace Go.VE
set_option linter.unusedVariables false
set_option linter.unusedSimpArgs false
noncomputable def outF (b : dBase) (t : dTxn) : Bool := t.2.2.2.2.2.2.1 || outOfB t b.2.1
noncomputable def thX (b : dBase) (t : dTxn) : dTxn := (t.1, 3, t.2.2.1, W (b.2.2.2.1 + 1), t.2.2.2.2.1, t.2.2.2.2.2.1, outF b t, ⟨#[]⟩)
def setOut (t : dTxn) : dTxn := (t.1, t.2.1, t.2.2.1, t.2.2.2.1, t.2.2.2.2.1, t.2.2.2.2.2.1, true, t.2.2.2.2.2.2.2)
noncomputable def thR (x : dTxn) (id : Int) (l : List dTxn) : List dTxn := (l.filter fun r => !(r.1 == id)).map fun r => bif aheadB r x then setOut r else r
noncomputable def nxF (b : dBase) (t : dTxn) : Int := bif decide (t.1 ≥ b.2.2.2.2) then W (t.1 + 1) else b.2.2.2.2
noncomputable def thF (b : dBase) (t : dTxn) : dBase := (pvF b.1 t.2.2.2.2.2.1 (W (b.2.2.2.1 + 1)), b.2.1 ++ [thX b t], thR (thX b t) t.1 b.2.2.1, W (b.2.2.2.1 + 1), nxF b t)
theorem Through_l {b : dBase} (hs : Sm tBase b) (t : dTxn) (c d : Int × Int) {x : dTxn} (hx : Sm tTxn x) (v : List dVersion) (p : List dTxn) : An (lpK spec_Through_b0 (b, t, c, d, x, v, p) (0, [])) (fun z => z.2 = thR x t.1 b.2.2.1) := by
  have hs' := (smBase.1 hs).2.2
  refine An.run (n := b.2.2.1.length) (fun i => ((i : Int), thR x t.1 (b.2.2.1.take i))) (by omega) rfl (fun i hi => ?_) ?_
  · have hm := hs'.2 _ (List.getElem_mem hi)
    have hL : (thR x t.1 (b.2.2.1.take i)).length ≤ i := by
      have := List.length_filter_le (fun r : dTxn => !(r.1 == t.1)) (b.2.2.1.take i)
      simp only [List.length_take] at this
      simp only [thR, List.length_map]; omega
    have e : thR x t.1 (b.2.2.1.take (i + 1)) = (bif b.2.2.1[i].1 == t.1 then thR x t.1 (b.2.2.1.take i) else thR x t.1 (b.2.2.1.take i) ++ [bif aheadB b.2.2.1[i] x then setOut b.2.2.1[i] else b.2.2.1[i]]) := by
      rw [List.take_succ_eq_append_getElem hi, thR, List.filter_append, List.map_append, thR]
      cases h : b.2.2.1[i].1 == t.1 <;> simp [h]
    refine An.lb ?_
    dsimp only
    rw [rd_get _ _ _ hi, e, ← wsucc (by omega)]
    refine An.dec (fun _ => An.ite (by omega) (An.bind (l07Copy_a hm) fun y hy => ?_)) fun h => absurd hi (by omega)
    subst hy
    dsimp only [pT]
    refine An.bif (fun h => An.ret (by rw [h]; rfl)) fun h => An.bind (Ahead_a hm hx) fun y9 h9 => An.bif (fun h1 => An.ite (by simp [maxLen_eq]; omega) (An.ret ?_)) fun h1 => An.ite (by simp [maxLen_eq]; omega) (An.ret ?_)
    · rw [h, ← h9, h1]; rfl
    · rw [h, ← h9, h1]; rfl
  · refine An.lb (An.dec (fun h => absurd h (by dsimp only; omega)) fun _ => An.ret ?_)
    simp only [Sum.elim_inr, List.take_length]
theorem sm_thX {b : dBase} {t : dTxn} (ht : Sm tTxn t) : Sm tTxn (thX b t) := by
  rw [smTxn] at ht ⊢
  exact ⟨ht.1, ht.2.1, by show (0 : Nat) ≤ 1000000; omega⟩
theorem Through_a {b : dBase} {t : dTxn} (hs : Sm tBase b) (ht : Sm tTxn t) (hv : b.1.length ≤ 100000) (hw : t.2.2.2.2.2.1.length ≤ 100000) : An (spec_Through_k (b, t)) (fun z => z = pB (thF b t)) := by
  have hs' := smBase.1 hs
  refine An.fn (An.bind (l09Copy_a hs) fun y1 h1 => An.bind (l07Copy_a ht) fun y2 h2 => ?_)
  subst h1; subst h2
  dsimp only [pB, pT]
  have hx := sm_thX (b := b) ht
  have go : ∀ o, o = outF b t → ∀ y3, y3 = pvF b.1 t.2.2.2.2.2.1 (W (b.2.2.2.1 + 1)) → An (fun k => lpK spec_Through_b0 (b, t, (0, 0), (W (b.2.2.2.1 + 1), b.2.2.2.2), (t.1, 3, t.2.2.1, W (b.2.2.2.1 + 1), t.2.2.2.2.1, t.2.2.2.2.2.1, o, ⟨#[]⟩), y3, b.2.1 ++ [(t.1, 3, t.2.2.1, W (b.2.2.2.1 + 1), t.2.2.2.2.1, t.2.2.2.2.2.1, o, ⟨#[]⟩)]) (0, []) (fun z4 => bif decide (t.1 ≥ b.2.2.2.2) then k (W (b.2.2.2.1 + 1), W (t.1 + 1), y3, b.2.1 ++ [(t.1, 3, t.2.2.1, W (b.2.2.2.1 + 1), t.2.2.2.2.1, t.2.2.2.2.2.1, o, ⟨#[]⟩)], z4.2) else k (W (b.2.2.2.1 + 1), b.2.2.2.2, y3, b.2.1 ++ [(t.1, 3, t.2.2.1, W (b.2.2.2.1 + 1), t.2.2.2.2.1, t.2.2.2.2.2.1, o, ⟨#[]⟩)], z4.2)))
      (fun z => z = pB (thF b t)) := by
    rintro o rfl y3 rfl
    refine An.bind (Through_l hs t _ _ hx _ _) fun z hz => An.bif (fun h => An.ret ?_) fun h => An.ret ?_
    all_goals
      rw [hz, pB, thF, nxF, h]; rfl
  refine An.bif (fun h => An.bind (PutVersions_a hv hw _) fun y3 h3 => An.ite (by simp [maxLen_eq]; omega) (go true (by rw [outF, h]; rfl) y3 h3)) fun h => An.bind (OutOf_a ht hs'.2.1.1 hs'.2.1.2) fun y5 h5 => An.bind (PutVersions_a hv hw _) fun y6 h6 => An.ite (by simp [maxLen_eq]; omega) (go y5 (by rw [outF, h, h5]; rfl) y6 h6)
noncomputable def mrX (b : dBase) (t : dTxn) (name : ByteArray) : dTxn := (t.1, 2, t.2.2.1, t.2.2.2.1, t.2.2.2.2.1, t.2.2.2.2.2.1, outF b t, name)
noncomputable def mrF (b : dBase) (t : dTxn) (name : ByteArray) : dBase := (b.1, b.2.1, (b.2.2.1.filter fun y => strLess y.2.2.2.2.2.2.2 name) ++ mrX b t name :: (b.2.2.1.filter fun y => !(strLess y.2.2.2.2.2.2.2 name)), b.2.2.2.1, nxF b t)
theorem MadeReady_a {b : dBase} {t : dTxn} (hs : Sm tBase b) (ht : Sm tTxn t) (name : ByteArray) (hr : b.2.2.1.length ≤ 100000) : An (spec_MadeReady_k (b, t, name)) (fun z => z = pB (mrF b t name)) := by
  have hs' := smBase.1 hs
  refine An.fn (An.bind (l09Copy_a hs) fun y1 h1 => An.bind (l07Copy_a ht) fun y2 h2 => ?_)
  subst h1; subst h2
  dsimp only [pB, pT]
  have hf := List.length_filter_le (fun y : dTxn => strLess y.2.2.2.2.2.2.2 name) b.2.2.1
  have l0 : ∀ (c d : Int × Int) (e f g : Int) (o : Bool × ByteArray) (v : List dVersion) (p : List dTxn) (r : List dRange) (w : List dWrite), An (lpK spec_MadeReady_b0 (name, b, t, c, d, e, f, g, o, v, p, r, w) (0, [])) (fun z => z.2 = [] ++ b.2.2.1.filter fun y => strLess y.2.2.2.2.2.2.2 name) := fun c d e f g o v p r w => An.filt b.2.2.1 (fun y => strLess y.2.2.2.2.2.2.2 name) [] (by omega) (fun i hi acc ha => by
      refine An.lb ?_
      dsimp only
      rw [rd_get _ _ _ hi]
      simp at ha
      refine An.dec (fun _ => An.ite (by omega) (An.bif (fun h => An.ite (by omega) (An.bind (l07Copy_a (hs'.2.2.2 _ (List.getElem_mem hi))) fun y hy => ?_)) fun h => An.ret (by simp only [h]; rfl))) fun h => absurd hi (by omega)
      subst hy
      exact An.ite (by simp [maxLen_eq]; omega) (An.ret (by simp only [h]; rfl))) fun acc => An.lb (An.dec (fun h => absurd h (by dsimp only; omega)) fun _ => An.ret rfl)
  have l2 : ∀ (c d : Int × Int) (v : List dVersion) (p : List dTxn) (a0 : List dTxn), a0.length ≤ 200000 → An (lpK spec_MadeReady_b2 (name, b, t, c, d, v, p) (0, a0)) (fun z => z.2 = a0 ++ b.2.2.1.filter fun y => !(strLess y.2.2.2.2.2.2.2 name)) := fun c d v p a0 h0 => An.filt b.2.2.1 (fun y => !(strLess y.2.2.2.2.2.2.2 name)) a0 (by omega) (fun i hi acc ha => by
      refine An.lb ?_
      dsimp only
      rw [rd_get _ _ _ hi]
      refine An.dec (fun _ => An.ite (by omega) (An.bif (fun h => An.ite (by omega) (An.bind (l07Copy_a (hs'.2.2.2 _ (List.getElem_mem hi))) fun y hy => ?_)) fun h => An.ret (by simp only [h]; rfl))) fun h => absurd hi (by omega)
      subst hy
      exact An.ite (by simp [maxLen_eq]; omega) (An.ret (by simp only [h]; rfl))) fun acc => An.lb (An.dec (fun h => absurd h (by dsimp only; omega)) fun _ => An.ret rfl)
  refine An.bif (fun h => An.bind (l0 ..) fun z3 h3 => An.ite (by rw [h3]; simp [maxLen_eq]; omega) (An.bind (l2 _ _ _ _ _ (by rw [h3]; simp; omega)) fun z4 h4 => An.bif (fun h5 => An.ret ?_) fun h5 => An.ret ?_)) fun h => An.bind (OutOf_a ht hs'.2.1.1 hs'.2.1.2) fun y5 g5 => An.bind (l0 ..) fun z3 h3 => An.ite (by rw [h3]; simp [maxLen_eq]; omega) (An.bind (l2 _ _ _ _ _ (by rw [h3]; simp; omega)) fun z4 h4 => An.bif (fun h5 => An.ret ?_) fun h5 => An.ret ?_)
  · replace h5 : decide (t.1 ≥ b.2.2.2.2) = true := h5
    rw [h4, h3, mrF, nxF, h5, mrX, outF, h]; simp
  · replace h5 : decide (t.1 ≥ b.2.2.2.2) = false := h5
    rw [h4, h3, mrF, nxF, h5, mrX, outF, h]; simp
  · replace h5 : decide (t.1 ≥ b.2.2.2.2) = true := h5
    rw [h4, h3, mrF, nxF, h5, mrX, outF, h, g5]; simp
  · replace h5 : decide (t.1 ≥ b.2.2.2.2) = false := h5
    rw [h4, h3, mrF, nxF, h5, mrX, outF, h, g5]; simp
noncomputable def lvF (b : dBase) (o : List dTxn) (id : Int) : dEngine := (tdF b (o.filter fun t => t.1 != id), o.filter fun t => t.1 != id)
theorem l11Out_a {b : dBase} (hs : Sm tBase b) {o : List dTxn} (ho : o.length ≤ 100000) (id : Int) : An (spec_l11Out_k (id, (b.2.2.2.1, b.2.2.2.2), b.1, b.2.1, b.2.2.1, o)) (fun z => z.1 = lvF b o id) := by
  have hf := List.length_filter_le (fun t : dTxn => t.1 != id) o
  refine An.fn (An.bind (An.filt o (fun t => t.1 != id) [] (by omega) (fun i hi acc ha => ?_) fun acc => ?_) fun z1 h1 => An.bind (Tidied_a (b := b) hs (by rw [h1]; simp; omega)) fun y2 h2 => An.ret ?_)
  · refine An.lb ?_
    dsimp only
    rw [getD_at _ _ _ hi]
    simp at ha
    exact An.dec (fun _ => An.ite (by omega) (An.bif (fun h => An.ite (by omega) (An.ite (by simp [maxLen_eq]; omega) (An.ret (by simp only [h]; rfl)))) fun h => An.ret (by simp only [h]; rfl))) fun h => absurd hi (by omega)
  · exact An.lb (An.dec (fun h => absurd h (by dsimp only; omega)) fun _ => An.ret rfl)
  · rw [h2, h1]; rfl
end Go.VE
namespace Go.VE
set_option linter.unusedVariables false
set_option linter.unusedSimpArgs false
theorem asc_pw {α : Type} {r : α → α → Prop} (ht : ∀ a b c, r a b → r b c → r a c) {l : List α} : Asc r l ↔ l.Pairwise r := by
  constructor
  · intro h
    refine List.pairwise_iff_getElem.2 fun i j hi hj hij => ?_
    have key : ∀ d (h2 : i + d + 1 < l.length), r l[i] l[i + d + 1] := by
      intro d
      induction d with
      | zero => intro h2; exact h i h2
      | succ d ih => intro h2; exact ht _ _ _ (ih (by omega)) (h (i + d + 1) h2)
    have := key (j - i - 1) (by omega)
    simpa only [show i + (j - i - 1) + 1 = j by omega] using this
  · exact fun h i hi => List.pairwise_iff_getElem.1 h i (i + 1) (by omega) hi (by omega)
theorem vLt_tr (a b c : dVersion) (h1 : vLt a b) (h2 : vLt b c) : vLt a c := by
  rcases h1 with h1 | ⟨h1, h3⟩ <;> rcases h2 with h2 | ⟨h2, h4⟩
  · exact .inl (strLess_trans h1 h2)
  · exact .inl (h2 ▸ h1)
  · exact .inl (h1 ▸ h2)
  · exact .inr ⟨h1.trans h2, by omega⟩
theorem VsOk.sub {l m : List dVersion} (h : VsOk l) (hs : m.Sublist l) : VsOk m :=
  ⟨fun v hv => h.1 v (hs.subset hv), (asc_pw vLt_tr).2 (((asc_pw vLt_tr).1 h.2.1).sublist hs), Nat.le_trans hs.length_le h.2.2⟩
theorem someF_sub (l : List dVersion) (snap : Int) : (someF l snap).Sublist l := by
  have := selI_sub l (fun i => match l[i]? with
    | some v => decide (v.2.2.2 > snap) || (atN l v.1 snap l.length == (i : Int))
    | none => false) l.length
  rwa [List.take_length] at this
theorem trF_sub (l : List dVersion) (snap : Int) : (trF l snap).Sublist l := (List.filter_sublist (l := someF l snap)).trans (someF_sub l snap)
theorem ids_sub {b c : dBase} (h1 : c.2.1.Sublist b.2.1) (h2 : c.2.2.1.Sublist b.2.2.1) : (idsOf c).Sublist (idsOf b) := (h1.map _).append (h2.map _)
def pastLt (s t : dTxn) : Prop := s.2.2.2.1 < t.2.2.2.1
def nameLt (s t : dTxn) : Prop := strLess s.2.2.2.2.2.2.2 t.2.2.2.2.2.2.2 = true
theorem pastLt_tr (a b c : dTxn) (h1 : pastLt a b) (h2 : pastLt b c) : pastLt a c := Int.lt_trans h1 h2
theorem nameLt_tr (a b c : dTxn) (h1 : nameLt a b) (h2 : nameLt b c) : nameLt a c := strLess_trans h1 h2
theorem BOk.sub {b c : dBase} (h : BOk b) (h1 : c.1.Sublist b.1) (h2 : c.2.1.Sublist b.2.1) (h3 : c.2.2.1.Sublist b.2.2.1) (h4 : c.2.2.2 = b.2.2.2) : BOk c := by
  refine ⟨h.1.sub h1, Nat.le_trans h2.length_le h.2.1, Nat.le_trans h3.length_le h.2.2.1, by rw [h4]; exact h.2.2.2.1, by rw [h4]; exact h.2.2.2.2.1, fun v hv => by rw [h4]; exact h.2.2.2.2.2.1 v (h1.subset hv), ⟨fun t ht => by rw [h4]; exact h.2.2.2.2.2.2.1.1 t (h2.subset ht), ?_⟩, ⟨fun t ht => by rw [h4]; exact h.2.2.2.2.2.2.2.1.1 t (h3.subset ht), ?_⟩, h.2.2.2.2.2.2.2.2.1.sublist (ids_sub h2 h3), fun i hi => by rw [h4]; exact h.2.2.2.2.2.2.2.2.2 i ((ids_sub h2 h3).subset hi)⟩
  · exact (asc_pw (r := pastLt) pastLt_tr).2 (((asc_pw (r := pastLt) pastLt_tr).1 h.2.2.2.2.2.2.1.2).sublist h2)
  · exact (asc_pw (r := nameLt) nameLt_tr).2 (((asc_pw (r := nameLt) nameLt_tr).1 h.2.2.2.2.2.2.2.1.2).sublist h3)
theorem BOk_td {b : dBase} (h : BOk b) (o : List dTxn) : BOk (tdF b o) := h.sub (trF_sub _ _) List.filter_sublist (List.Sublist.refl _) rfl
theorem BOk_gu {b : dBase} (h : BOk b) (name : ByteArray) : BOk (guF b name) := h.sub (List.Sublist.refl _) (List.Sublist.refl _) List.filter_sublist rfl
theorem insV_mem {l : List dVersion} {v y : dVersion} : y ∈ insV l v ↔ y = v ∨ y ∈ l := by
  rw [insV, List.mem_append, List.mem_cons]
  have h : y ∈ l ↔ y ∈ l.takeWhile (vLe v) ∨ y ∈ l.dropWhile (vLe v) := by
    rw [← List.mem_append, List.takeWhile_append_dropWhile]
  rw [h]
  constructor <;> rintro (h | h | h) <;> simp [h]
theorem takeWhile_all {α : Type} {p : α → Bool} {l : List α} {x : α} (h : x ∈ l.takeWhile p) : p x = true := by
  induction l with
  | nil => simp at h
  | cons a l ih =>
    rw [List.takeWhile_cons] at h
    split at h
    · rcases List.mem_cons.1 h with rfl | h
      · assumption
      · exact ih h
    · simp at h
theorem dropWhile_head {α : Type} {p : α → Bool} {r : α → α → Prop} {l : List α} (hp : l.Pairwise r) {x : α} (h : x ∈ l.dropWhile p) : ∃ y, p y = false ∧ y ∈ l ∧ (x = y ∨ r y x) := by
  induction l with
  | nil => simp at h
  | cons a l ih =>
    rw [List.dropWhile_cons] at h
    rw [List.pairwise_cons] at hp
    split at h
    · obtain ⟨y, h1, h2, h3⟩ := ih hp.2 h
      exact ⟨y, h1, by simp [h2], h3⟩
    · rename_i ha
      refine ⟨a, by simpa using ha, by simp, ?_⟩
      rcases List.mem_cons.1 h with rfl | h
      · exact .inl rfl
      · exact .inr (hp.1 x h)
theorem insV_pw {l : List dVersion} {v : dVersion} (hp : l.Pairwise vLt) (hn : ∀ y ∈ l, y.1 = v.1 → y.2.2.2 ≠ v.2.2.2) : (insV l v).Pairwise vLt := by
  have e := List.takeWhile_append_dropWhile (p := vLe v) (l := l)
  have hp' := hp
  rw [← e, List.pairwise_append] at hp'
  have ht : ∀ y ∈ l.takeWhile (vLe v), vLt y v := fun y hy => by
    have h1 := takeWhile_all hy
    have h2 := hn y ((List.takeWhile_sublist _).subset hy)
    simp only [vLe, Bool.or_eq_true, Bool.and_eq_true, decide_eq_true_eq] at h1
    rcases h1 with h1 | ⟨h1, h3⟩
    · exact .inl h1
    · have := strEq_iff.1 h1
      exact .inr ⟨this, by have := h2 this; omega⟩
  have hd : ∀ y ∈ l.dropWhile (vLe v), vLt v y := fun y hy => by
    obtain ⟨z, h1, h2, h3⟩ := dropWhile_head hp hy
    have hz : vLt v z := by
      simp only [vLe, Bool.or_eq_false_iff, Bool.and_eq_false_iff, decide_eq_false_iff_not] at h1
      rcases h1 with ⟨h1, h4 | h4⟩
      · exact .inl (strLess_not h1 h4)
      · rcases strLess_tri z.1 v.1 with h5 | h5 | h5
        · rw [h1] at h5; cases h5
        · exact .inr ⟨h5.symm, by omega⟩
        · exact .inl h5
    rcases h3 with rfl | h3
    · exact hz
    · exact vLt_tr _ _ _ hz h3
  rw [insV, List.pairwise_append]
  refine ⟨hp'.1, List.pairwise_cons.2 ⟨hd, hp'.2.1⟩, fun a ha b hb => ?_⟩
  rcases List.mem_cons.1 hb with rfl | hb
  · exact ht a ha
  · exact hp'.2.2 a ha b hb
theorem pvF_ok {w : List dWrite} {cs : Int} (hw : w.Pairwise fun a b => strLess a.1 b.1 = true) : ∀ {l : List dVersion}, l.Pairwise vLt → (∀ y ∈ l, y.2.2.2 ≠ cs ∨ ∀ x ∈ w, y.1 ≠ x.1) →
    (pvF l w cs).Pairwise vLt ∧ ∀ y, y ∈ pvF l w cs ↔ y ∈ l ∨ ∃ x ∈ w, y = (x.1, x.2.1, x.2.2, cs) := by
  induction w with
  | nil => intro l hp _; exact ⟨hp, fun y => by simp [pvF]⟩
  | cons a w ih =>
    intro l hp hn
    rw [List.pairwise_cons] at hw
    obtain ⟨h1, h2⟩ := ih hw.2 (l := insV l (a.1, a.2.1, a.2.2, cs)) (insV_pw hp fun y hy h => by
      rcases hn y hy with h3 | h3
      · exact h3
      · exact absurd h (h3 a (by simp))) fun y hy => by
        rcases insV_mem.1 hy with rfl | hy
        · refine .inr fun x hx h => ?_
          have := hw.1 x hx
          rw [← h, strLess_irrefl] at this; cases this
        · rcases hn y hy with h3 | h3
          · exact .inl h3
          · exact .inr fun x hx => h3 x (by simp [hx])
    refine ⟨h1, fun y => ?_⟩
    show y ∈ pvF (insV l (a.1, a.2.1, a.2.2, cs)) w cs ↔ _
    rw [h2, insV_mem]
    constructor
    · rintro ((rfl | h) | ⟨x, hx, rfl⟩)
      · exact .inr ⟨a, by simp, rfl⟩
      · exact .inl h
      · exact .inr ⟨x, by simp [hx], rfl⟩
    · rintro (h | ⟨x, hx, rfl⟩)
      · exact .inl (.inr h)
      · rcases List.mem_cons.1 hx with rfl | hx
        · exact .inl (.inl rfl)
        · exact .inr ⟨x, hx, rfl⟩
theorem wLt_pw {l : List dWrite} (h : WsOk l) : l.Pairwise fun a b => strLess a.1 b.1 = true := (asc_pw (r := fun a b : dWrite => strLess a.1 b.1 = true) fun a b c h1 h2 => strLess_trans h1 h2).1 h.2.1
theorem mem_thR {x r : dTxn} {id : Int} {l : List dTxn} (h : r ∈ thR x id l) : ∃ s ∈ l, s.1 ≠ id ∧ (r = s ∨ r = setOut s) := by
  rw [thR, List.mem_map] at h
  obtain ⟨s, hs, rfl⟩ := h
  rw [List.mem_filter] at hs
  refine ⟨s, hs.1, by simpa using hs.2, ?_⟩
  cases aheadB s x
  · exact .inl rfl
  · exact .inr rfl
theorem map_thR {β : Type} (f : dTxn → β) (hf : ∀ s, f (setOut s) = f s) (x : dTxn) (id : Int) (l : List dTxn) : (thR x id l).map f = (l.filter fun r => !(r.1 == id)).map f := by
  rw [thR, List.map_map]
  refine List.map_congr_left fun s _ => ?_
  simp only [Function.comp_apply]
  cases aheadB s x
  · rfl
  · exact hf s
theorem BOk_th {b : dBase} (h : BOk b) {t : dTxn} (ht : TOk t) (h1 : t.2.2.1 ≤ b.2.2.2.1) (h2 : t.1 < b.2.2.2.2) (h3 : t.1 ∉ b.2.1.map (·.1)) (h4 : b.2.1.length < 12) (h5 : b.1.length ≤ 100) (h6 : b.2.2.2.1 < 9999) : BOk (thF b t) := by
  obtain ⟨c1, c2⟩ := h.2.2.2.1
  have hW : W (b.2.2.2.1 + 1) = b.2.2.2.1 + 1 := W_eq (by omega) (by omega)
  have hN : nxF b t = b.2.2.2.2 := by rw [nxF, decide_eq_false (by omega)]; rfl
  have hw := ht.2.2.2.2.1
  obtain ⟨p1, p2⟩ := pvF_ok (cs := b.2.2.2.1 + 1) (wLt_pw hw) ((asc_pw vLt_tr).1 h.1.2.1) fun y hy => .inl (by have := h.2.2.2.2.2.1 y hy; omega)
  have hx : TOk (thX b t) := ⟨ht.1, by simp [thX], ht.2.2.1, ht.2.2.2.1, hw, ht.2.2.2.2.2.1, fun _ => by simp only [thX]; rw [hW]; exact ⟨by omega, by omega⟩, fun hh => absurd rfl hh, fun hh => absurd hh (by simp [thX]), fun _ => rfl, fun hh => absurd hh (by simp [thX])⟩
  have hR := h.2.2.2.2.2.2.2.1
  unfold thF
  rw [hW, hN]
  refine ⟨⟨fun v hv => ?_, (asc_pw vLt_tr).2 p1, by rw [pvF_len]; have := hw.2.2; omega⟩, by simp; omega, ?_, ⟨by dsimp only; omega, by dsimp only; omega⟩, h.2.2.2.2.1, fun v hv => ?_, ⟨fun s hs => ?_, ?_⟩, ⟨fun r hr => ?_, ?_⟩, ?_, fun i hi => ?_⟩
  · rcases (p2 v).1 hv with hv | ⟨x, hx', rfl⟩
    · exact h.1.1 v hv
    · have := hw.1 x hx'
      exact ⟨this.1, this.2.1, this.2.2, by dsimp only; omega, by dsimp only; omega⟩
  · have := List.length_filter_le (fun r : dTxn => !(r.1 == t.1)) b.2.2.1
    have := h.2.2.1
    simp only [thR, List.length_map]; omega
  · rcases (p2 v).1 hv with hv | ⟨x, hx', rfl⟩
    · have := h.2.2.2.2.2.1 v hv
      dsimp only; omega
    · exact Int.le_refl _
  · rcases List.mem_append.1 hs with hs | hs
    · have := h.2.2.2.2.2.2.1.1 s hs
      exact ⟨this.1, this.2.1, by dsimp only; omega⟩
    · rw [List.mem_singleton.1 hs]
      exact ⟨hx, rfl, by simp only [thX]; rw [hW]; exact Int.le_refl _⟩
  · refine (asc_pw (r := pastLt) pastLt_tr).2 (List.pairwise_append.2 ⟨(asc_pw (r := pastLt) pastLt_tr).1 h.2.2.2.2.2.2.1.2, by simp, fun a ha c hc => ?_⟩)
    rw [List.mem_singleton.1 hc]
    have := (h.2.2.2.2.2.2.1.1 a ha).2.2
    simp only [pastLt, thX]; rw [hW]; omega
  · obtain ⟨s, hs, _, rfl | rfl⟩ := mem_thR hr
    · have := hR.1 r hs
      exact ⟨this.1, this.2.1, by dsimp only; omega⟩
    · obtain ⟨k1, k2, k3⟩ := hR.1 s hs
      exact ⟨⟨k1.1, k1.2.1, k1.2.2.1, k1.2.2.2.1, k1.2.2.2.2.1, k1.2.2.2.2.2.1, k1.2.2.2.2.2.2.1, k1.2.2.2.2.2.2.2.1, k1.2.2.2.2.2.2.2.2.1, k1.2.2.2.2.2.2.2.2.2.1, fun hh => absurd (show s.2.1 = 1 from hh) (by omega)⟩, k2, by show s.2.2.1 ≤ b.2.2.2.1 + 1; omega⟩
  · refine (asc_pw (r := nameLt) nameLt_tr).2 ?_
    have e := map_thR (·.2.2.2.2.2.2.2) (fun _ => rfl) (thX b t) t.1 b.2.2.1
    have := (((asc_pw (r := nameLt) nameLt_tr).1 hR.2).sublist (List.filter_sublist (p := fun r : dTxn => !(r.1 == t.1))))
    have := (List.pairwise_map (R := fun x y : ByteArray => strLess x y = true) (f := fun t : dTxn => t.2.2.2.2.2.2.2)).2 this
    rw [← e] at this
    exact (List.pairwise_map (R := fun x y : ByteArray => strLess x y = true) (f := fun t : dTxn => t.2.2.2.2.2.2.2)).1 this
  · have e := map_thR (·.1) (fun _ => rfl) (thX b t) t.1 b.2.2.1
    have hn := h.2.2.2.2.2.2.2.2.1
    simp only [idsOf, List.map_append, List.map_cons, List.map_nil] at hn ⊢
    rw [e]
    rw [List.nodup_append] at hn
    refine List.nodup_append.2 ⟨List.nodup_append.2 ⟨hn.1, by simp, fun a ha c hc => ?_⟩, hn.2.1.sublist ((List.filter_sublist).map _), fun a ha c hc => ?_⟩
    · rw [List.mem_singleton.1 hc]
      rintro rfl
      exact h3 ha
    · rw [List.mem_map] at hc
      obtain ⟨r, hr, rfl⟩ := hc
      rw [List.mem_filter] at hr
      rcases List.mem_append.1 ha with ha | ha
      · exact hn.2.2 a ha _ (List.mem_map_of_mem hr.1)
      · rw [List.mem_singleton.1 ha]
        intro hh
        have := hr.2
        rw [← hh] at this
        simp [thX] at this
  · have e := map_thR (·.1) (fun _ => rfl) (thX b t) t.1 b.2.2.1
    simp only [idsOf, List.map_append, List.map_cons, List.map_nil] at hi
    rw [e] at hi
    rcases List.mem_append.1 hi with hi | hi
    · rcases List.mem_append.1 hi with hi | hi
      · exact h.2.2.2.2.2.2.2.2.2 i (List.mem_append.2 (.inl hi))
      · rw [List.mem_singleton.1 hi]; exact h2
    · exact h.2.2.2.2.2.2.2.2.2 i (List.mem_append.2 (.inr (((List.filter_sublist).map _).subset hi)))
theorem BOk_mr {b : dBase} (h : BOk b) {t : dTxn} (ht : TOk t) (hst : t.2.1 = 1) (h1 : t.2.2.1 ≤ b.2.2.2.1) (h2 : t.1 < b.2.2.2.2) (h3 : t.1 ∉ idsOf b) {name : ByteArray} (hk : KOk name) (h4 : b.2.2.1.length < 3) (h5 : ∀ r ∈ b.2.2.1, r.2.2.2.2.2.2.2 ≠ name) : BOk (mrF b t name) := by
  have hN : nxF b t = b.2.2.2.2 := by rw [nxF, decide_eq_false (by omega)]; rfl
  have hx : TOk (mrX b t name) := ⟨ht.1, by simp [mrX], ht.2.2.1, ht.2.2.2.1, ht.2.2.2.2.1, ht.2.2.2.2.2.1, fun hh => absurd hh (by simp [mrX]), fun _ => ht.2.2.2.2.2.2.2.1 (by omega), fun _ => hk, fun hh => absurd rfl hh, fun hh => absurd hh (by simp [mrX])⟩
  have hR := h.2.2.2.2.2.2.2.1
  have hf := filt2_le (fun y : dTxn => strLess y.2.2.2.2.2.2.2 name) (fun y => !(strLess y.2.2.2.2.2.2.2 name)) b.2.2.1 (fun x h => by simp [h])
  have hp := (asc_pw (r := nameLt) nameLt_tr).1 hR.2
  unfold mrF
  rw [hN]
  refine ⟨h.1, h.2.1, by simp; omega, h.2.2.2.1, h.2.2.2.2.1, h.2.2.2.2.2.1, h.2.2.2.2.2.2.1, ⟨fun r hr => ?_, ?_⟩, ?_, fun i hi => ?_⟩
  · rcases List.mem_append.1 hr with hr | hr
    · exact hR.1 r (List.mem_filter.1 hr).1
    · rcases List.mem_cons.1 hr with rfl | hr
      · exact ⟨hx, rfl, h1⟩
      · exact hR.1 r (List.mem_filter.1 hr).1
  · refine (asc_pw (r := nameLt) nameLt_tr).2 (List.pairwise_append.2 ⟨hp.sublist List.filter_sublist, List.pairwise_cons.2 ⟨fun r hr => ?_, hp.sublist List.filter_sublist⟩, fun a ha c hc => ?_⟩)
    · rw [List.mem_filter] at hr
      have := hr.2
      simp only [Bool.not_eq_true'] at this
      rcases strLess_tri r.2.2.2.2.2.2.2 name with h6 | h6 | h6
      · rw [this] at h6; cases h6
      · exact absurd h6 (h5 r hr.1)
      · exact h6
    · rw [List.mem_filter] at ha
      rcases List.mem_cons.1 hc with rfl | hc
      · exact ha.2
      · rw [List.mem_filter] at hc
        rcases strLess_tri a.2.2.2.2.2.2.2 c.2.2.2.2.2.2.2 with h6 | h6 | h6
        · exact h6
        · have := hc.2
          rw [← h6, ha.2] at this; cases this
        · have := hc.2
          rw [strLess_trans h6 ha.2] at this; cases this
  all_goals
    have e : (idsOf (b.1, b.2.1, (b.2.2.1.filter fun y => strLess y.2.2.2.2.2.2.2 name) ++ mrX b t name :: (b.2.2.1.filter fun y => !(strLess y.2.2.2.2.2.2.2 name)), b.2.2.2.1, b.2.2.2.2)).Perm (t.1 :: idsOf b) := by
      unfold idsOf
      refine List.Perm.trans (List.Perm.append_left _ ?_) List.perm_middle
      rw [List.map_append, List.map_cons]
      refine List.perm_middle.trans (List.Perm.cons _ ?_)
      rw [← List.map_append]
      exact (List.filter_append_perm (fun y : dTxn => strLess y.2.2.2.2.2.2.2 name) b.2.2.1).map _
  · exact e.nodup_iff.2 (List.nodup_cons.2 ⟨h3, h.2.2.2.2.2.2.2.2.1⟩)
  · rcases List.mem_cons.1 (e.mem_iff.1 hi) with rfl | hi
    · exact h2
    · exact h.2.2.2.2.2.2.2.2.2 i hi
theorem ids_td {b : dBase} {o : List dTxn} {i : Int} (h : i ∈ idsOf (tdF b o)) : i ∈ idsOf b := (ids_sub (b := b) (c := tdF b o) List.filter_sublist (List.Sublist.refl _)).subset h
/-- An engine whose base is another one, less who leaves. -/
theorem EI_lv {b : dBase} (h : BOk b) (hn : Nm b) {o : List dTxn} (ho : o.length ≤ 4) (id : Int) (hs : ∀ t ∈ o, t.1 ≠ id → TOk t ∧ t.2.1 = 1 ∧ t.1 < b.2.2.2.2 ∧ t.2.2.1 ≤ b.2.2.2.1 ∧ t.1 ∉ idsOf b) : EI (lvF b o id) := by
  refine ⟨BOk_td h _, hn, Nat.le_trans (List.length_filter_le _ _) ho, fun t ht => ?_⟩
  rw [lvF, List.mem_filter] at ht
  have := hs t ht.1 (by simpa using ht.2)
  exact ⟨this.1, this.2.1, this.2.2.1, this.2.2.2.1, fun hm => this.2.2.2.2 (ids_td hm)⟩
theorem EI_td {b : dBase} (h : BOk b) (hn : Nm b) {o : List dTxn} (ho : o.length ≤ 4) (hs : ∀ t ∈ o, TOk t ∧ t.2.1 = 1 ∧ t.1 < b.2.2.2.2 ∧ t.2.2.1 ≤ b.2.2.2.1 ∧ t.1 ∉ idsOf b) (q : List dTxn) : EI (tdF b q, o) :=
  ⟨BOk_td h _, hn, ho, fun t ht => by
    have := hs t ht
    exact ⟨this.1, this.2.1, this.2.2.1, this.2.2.2.1, fun hm => this.2.2.2.2 (ids_td hm)⟩⟩
theorem ids_th {b : dBase} {t : dTxn} {i : Int} (h : i ∈ idsOf (thF b t)) : i = t.1 ∨ i ∈ idsOf b := by
  have e := map_thR (·.1) (fun _ => rfl) (thX b t) t.1 b.2.2.1
  unfold idsOf thF at h
  simp only [List.map_append, List.map_cons, List.map_nil] at h
  rw [e] at h
  rcases List.mem_append.1 h with h | h
  · rcases List.mem_append.1 h with h | h
    · exact .inr (List.mem_append.2 (.inl h))
    · exact .inl (List.mem_singleton.1 h)
  · exact .inr (List.mem_append.2 (.inr (((List.filter_sublist).map _).subset h)))
theorem Nm_th {b : dBase} (h : Nm b) (t : dTxn) : Nm (thF b t) := fun r hr => by
  obtain ⟨s, hs, _, rfl | rfl⟩ := mem_thR hr
  · exact h r hs
  · exact h s hs
end Go.VE
namespace Go.VE
set_option linter.unusedVariables false
set_option linter.unusedSimpArgs false
theorem EI.lv {e : dEngine} (h : EI e) (id : Int) : EI (lvF e.1 e.2 id) := EI_lv h.1 h.2.1 h.2.2.1 id fun t ht _ => h.2.2.2 t ht
theorem Leave_a {e : dEngine} (h : EI e) (id : Int) : An (spec_Leave_k (e, id)) (fun z => EI z.1) := by
  have hs := sm_engine h
  have hs' := smEngine.1 hs
  refine An.fn (An.bind (l11Copy_a hs) fun y hy => An.bind (OpenAt_a hs'.2.1 id) fun y2 _ => An.dec (fun _ => An.ret ?_) fun _ => ?_)
  · subst hy; exact h
  · subst hy
    exact An.bind (l11Out_a (o := e.2) hs'.1 (by have := h.2.2.1; omega) id) fun y3 h3 => An.ret (by rw [h3]; exact h.lv id)
abbrev cT : Type := dEngine × Int × Int × Int × Int × Int × List dRange × List dWrite × Bool × ByteArray × ByteArray × Bool × Int × Int × Int
def recC (y : cT) : dRecord := (y.2.1, (y.2.2.1, y.2.2.2.1, y.2.2.2.2.1, y.2.2.2.2.2.1, y.2.2.2.2.2.2.1, y.2.2.2.2.2.2.2.1, y.2.2.2.2.2.2.2.2.1, y.2.2.2.2.2.2.2.2.2.1), y.2.2.2.2.2.2.2.2.2.2.1, y.2.2.2.2.2.2.2.2.2.2.2.1, [], [], [], y.2.2.2.2.2.2.2.2.2.2.2.2.1, y.2.2.2.2.2.2.2.2.2.2.2.2.2.1)
theorem sm_rec {k : Int} {t : dTxn} (ht : Sm tTxn t) (n : ByteArray) (hn : n.size ≤ 1000000) (y : Bool) (c d : Int) : Sm tRecord (k, t, n, y, [], [], [], c, d) :=
  smRecord.2 ⟨ht, hn, smBase.2 ⟨⟨by simp, nofun⟩, ⟨by simp, nofun⟩, ⟨by simp, nofun⟩⟩⟩
theorem sm_no : Sm tTxn (0, 0, 0, 0, [], [], false, ⟨#[]⟩) := smTxn.2 ⟨⟨by simp, nofun⟩, ⟨by simp, nofun⟩, by decide⟩
theorem ids_past {b : dBase} {i : Int} (h : i ∉ idsOf b) : i ∉ b.2.1.map (·.1) := fun hm => h (List.mem_append.2 (.inl hm))
theorem Commit_a {e : dEngine} (h : EI e) (id : Int) : An (spec_Commit_k (e, id)) (fun z => EI z.1 ∧ Sm tRecord (recC z)) := by
  have hs := sm_engine h
  have hs' := smEngine.1 hs
  have h4 := h.2.2.1
  refine An.fn (An.bind (l11Copy_a hs) fun y hy => ?_)
  subst hy
  dsimp only [pE]
  have s0 := sm_rec (k := 0) sm_no ⟨#[]⟩ (by decide) false 0 0
  refine An.bind (Judge_a h id) fun y2 g2 => An.beq (fun _ => An.ret ⟨h, s0⟩) fun h2 => An.bne (fun _ => An.bind (l11Out_a hs'.1 (by omega) id) fun y3 h3 => An.ret ⟨by rw [h3]; exact h.lv id, s0⟩) fun h5 => An.bind (OpenAt_a hs'.2.1 id) fun y4 g4 => ?_
  obtain ⟨k1, k2, k3⟩ := g2.2 h5
  rcases g4 with ⟨_, g4⟩ | ⟨i, hi, rfl, g4⟩
  · obtain ⟨j, hj, e1⟩ := g2.1.resolve_left h2
    exact absurd e1 (g4 _ (List.getElem_mem hj))
  obtain ⟨m1, m2, m3, m4, m5⟩ := h.2.2.2 _ (List.getElem_mem hi)
  rw [rd_get _ _ _ hi]
  generalize e.2[i] = t at *
  subst g4
  have hth := BOk_th h.1 m1 m4 m3 (ids_past m5) k1 k2 k3
  refine An.ite (by omega) (An.bind (Through_a hs'.1 (sm_txn m1) (by omega) (by have := m1.2.2.2.2.1.len; omega)) fun y5 h5 => ?_)
  subst h5
  dsimp only [pB]
  have hl : (thF e.1 t).2.1.length = e.1.2.1.length + 1 := by simp [thF]
  have hw : W (((thF e.1 t).2.1.length : Int) - 1) = ((e.1.2.1.length : Nat) : Int) := by rw [hl, W_eq (by omega) (by omega)]; omega
  have hg : (thF e.1 t).2.1.getD ((W (((thF e.1 t).2.1.length : Int) - 1)).toNat) zTxn = thX e.1 t := by rw [hw]; simp [thF]
  rw [hg]
  refine An.ite (by rw [hw]; omega) (An.bind (l07Copy_a (sm_thX (sm_txn m1))) fun y6 h6 => ?_)
  subst h6
  refine An.bind (l11Out_a (sm_base hth) (by omega) t.1) fun y7 h7 => An.ret ⟨?_, sm_rec (k := 1) (sm_thX (b := e.1) (sm_txn m1)) ⟨#[]⟩ (by decide) false 0 0⟩
  rw [h7]
  refine EI_lv hth (Nm_th h.2.1 t) h4 t.1 fun s hs2 hne => ?_
  obtain ⟨n1, n2, n3, n4, n5⟩ := h.2.2.2 s hs2
  have c1 : (thF e.1 t).2.2.2.1 = e.1.2.2.2.1 + 1 := W_eq (by have := h.1.2.2.2.1; omega) (by omega)
  have c2 : (thF e.1 t).2.2.2.2 = e.1.2.2.2.2 := by show nxF _ _ = _; rw [nxF, decide_eq_false (by omega)]; rfl
  exact ⟨n1, n2, by rw [c2]; exact n3, by rw [c1]; omega, fun hm => (ids_th hm).elim hne n5⟩
theorem Prepare_a {e : dEngine} (h : EI e) (id : Int) {name : ByteArray} (hn : name ∈ [(⟨#[112]⟩ : ByteArray), ⟨#[113]⟩, ⟨#[114]⟩]) : An (spec_Prepare_k (e, id, name)) (fun z => EI z.1 ∧ Sm tRecord (recC z)) := by
  have hs := sm_engine h
  have hs' := smEngine.1 hs
  have hb := smBase.1 hs'.1
  have h4 := h.2.2.1
  have hnl : name.size ≤ 3 := by
    simp only [List.mem_cons, List.not_mem_nil, or_false] at hn
    rcases hn with rfl | rfl | rfl <;> decide
  refine An.fn (An.bind (l11Copy_a hs) fun y hy => ?_)
  subst hy
  dsimp only [pE]
  have s0 := sm_rec (k := 0) sm_no ⟨#[]⟩ (by decide) false 0 0
  have O : ∀ c : Int, An (fun k => spec_l11Out_k (id, (e.1.2.2.2.1, e.1.2.2.2.2), e.1.1, e.1.2.1, e.1.2.2.1, e.2) (fun y8 => k (y8.1, 0, 0, 0, 0, 0, [], [], false, ⟨#[]⟩, ⟨#[]⟩, false, 0, 0, c))) (fun z : cT => EI z.1 ∧ Sm tRecord (recC z)) := fun c => An.bind (l11Out_a hs'.1 (by omega) id) fun y3 h3 => An.ret ⟨by rw [h3]; exact h.lv id, s0⟩
  refine An.bind (OpenAt_a hs'.2.1 id) fun y2 g2 => An.dec (fun _ => An.ret ⟨h, s0⟩) fun h2 => An.bind (KeyOk_a (by omega)) fun y3 g3 => An.nt (fun _ => An.ret ⟨h, s0⟩) fun h3 => An.bind (ReadyAt_a hb.2.2.1 name) fun y4 g4 => An.dec (fun _ => An.ret ⟨h, s0⟩) fun h5 => An.bind (Judge_a h id) fun y5 g5 => ?_
  rcases g2 with ⟨rfl, _⟩ | ⟨i, hi, rfl, g2⟩
  · exact absurd h2 (by decide)
  rcases g4 with ⟨rfl, g4⟩ | ⟨j, _, rfl, _⟩
  rotate_left
  · exact absurd (Int.natCast_nonneg j) h5
  obtain ⟨m1, m2, m3, m4, m5⟩ := h.2.2.2 _ (List.getElem_mem hi)
  rw [rd_get _ _ _ hi]
  generalize e.2[i] = t at *
  subst g2
  have M : e.1.2.2.1.length < 3 → An (fun k => if 0 ≤ (i : Int) ∧ (i : Int) < (e.2.length : Int) then spec_MadeReady_k (e.1, t, name) (fun y11 => spec_ReadyAt_k ((y11.2.2.1, (y11.2.2.2.1, (y11.2.2.2.2, (y11.1, y11.2.1)))), name) (fun y12 => if 0 ≤ y12 ∧ y12 < (y11.2.2.2.2.length : Int) then spec_l07Copy_k (y11.2.2.2.2.getD y12.toNat zTxn) (fun y13 => spec_l11Out_k (t.1, (y11.1, y11.2.1), y11.2.2.1, y11.2.2.2.1, y11.2.2.2.2, e.2) (fun y14 => k (y14.1, 2, y13.1, y13.2.1, y13.2.2.1, y13.2.2.2.1, y13.2.2.2.2.2.2.1, y13.2.2.2.2.2.2.2, y13.2.2.2.2.1, y13.2.2.2.2.2.1, ⟨#[]⟩, false, 0, 0, 0))) else none)) else none) (fun z : cT => EI z.1 ∧ Sm tRecord (recC z)) := fun h6 => by
    have hmr := BOk_mr h.1 m1 m2 m4 m3 m5 (g3.1 h3) h6 g4
    have hsm := sm_base hmr
    have hb2 := smBase.1 hsm
    refine An.ite (by omega) (An.bind (MadeReady_a hs'.1 (sm_txn m1) name (by omega)) fun y11 h11 => ?_)
    subst h11
    dsimp only [pB]
    refine An.bind (ReadyAt_a (b := mrF e.1 t name) hb2.2.2.1 name) fun y12 g12 => ?_
    rcases g12 with ⟨_, g12⟩ | ⟨j, hj, rfl, _, _⟩
    · exact absurd rfl (g12 (mrX e.1 t name) (by simp [mrF]))
    rw [getD_at _ _ _ hj]
    have sj := hb2.2.2.2 _ (List.getElem_mem hj)
    refine An.ite (by omega) (An.bind (l07Copy_a sj) fun y13 h13 => ?_)
    subst h13
    refine An.bind (l11Out_a hsm (by omega) t.1) fun y14 h14 => An.ret ⟨?_, sm_rec (k := 2) sj ⟨#[]⟩ (by decide) false 0 0⟩
    rw [h14]
    have c2 : (mrF e.1 t name).2.2.2.2 = e.1.2.2.2.2 := by show nxF _ _ = _; rw [nxF, decide_eq_false (by omega)]; rfl
    refine EI_lv hmr (fun r hr => ?_) h4 t.1 fun s hs2 hne => ?_
    · rcases List.mem_append.1 hr with hr | hr
      · exact h.2.1 r (List.mem_filter.1 hr).1
      · rcases List.mem_cons.1 hr with rfl | hr
        · exact hn
        · exact h.2.1 r (List.mem_filter.1 hr).1
    · obtain ⟨n1, n2, n3, n4, n5⟩ := h.2.2.2 s hs2
      refine ⟨n1, n2, by rw [c2]; exact n3, n4, fun hm => ?_⟩
      rcases List.mem_append.1 hm with hm | hm
      · exact n5 (List.mem_append.2 (.inl hm))
      · rw [List.mem_map] at hm
        obtain ⟨r, hr, e1⟩ := hm
        rcases List.mem_append.1 hr with hr | hr
        · exact n5 (List.mem_append.2 (.inr (by rw [← e1]; exact List.mem_map_of_mem (List.mem_filter.1 hr).1)))
        · rcases List.mem_cons.1 hr with rfl | hr
          · exact hne e1.symm
          · exact n5 (List.mem_append.2 (.inr (by rw [← e1]; exact List.mem_map_of_mem (List.mem_filter.1 hr).1)))
  have hall : ∀ x ∈ e.1.2.1 ++ e.1.2.2.1, Sm tTxn x := fun x hx => by
    rcases List.mem_append.1 hx with hx | hx
    · exact hb.2.1.2 x hx
    · exact hb.2.2.2 x hx
  have b2 := h.1.2.1
  have b3 := h.1.2.2.1
  have ha : (e.1.2.1 ++ e.1.2.2.1).length ≤ 1000000 := by simp; omega
  refine An.beq (fun h6 => An.ite (by omega) (An.bind (P := fun z => z = e.1.2.1 ++ e.1.2.2.1) (An.fn (An.ite (by simp [maxLen_eq]; omega) (An.ite (by simp [maxLen_eq]; omega) (An.ret rfl)))) fun y6 h7 => ?_)) fun h6 => An.beq (fun h => absurd h h6) fun _ => An.bne (fun _ => O _) fun h => absurd h h6
  subst h7
  exact An.bind (ReadyDanger_a (sm_txn m1) ha hall) fun y7 _ => An.bif (fun _ => O _) fun _ => An.beq (fun _ => An.dec (fun _ => O _) fun h8 => An.bne (fun h => absurd h6 h) fun _ => M (by omega)) fun h => absurd h6 h
abbrev fT : Type := dEngine × Int × Int × Int × Int × Int × Bool × ByteArray × ByteArray × Bool × Int × Int × Int
def recF (y : fT) : dRecord := (y.2.1, (y.2.2.1, y.2.2.2.1, y.2.2.2.2.1, y.2.2.2.2.2.1, [], [], y.2.2.2.2.2.2.1, y.2.2.2.2.2.2.2.1), y.2.2.2.2.2.2.2.2.1, y.2.2.2.2.2.2.2.2.2.1, [], [], [], y.2.2.2.2.2.2.2.2.2.2.1, y.2.2.2.2.2.2.2.2.2.2.2.1)
theorem Finish_a {e : dEngine} (h : EI e) {name : ByteArray} (hn : name.size ≤ 3) (yes : Bool) : An (spec_Finish_k (e, name, yes)) (fun z => EI z.1 ∧ Sm tRecord (recF z)) := by
  have hs := sm_engine h
  have hs' := smEngine.1 hs
  have hb := smBase.1 hs'.1
  have h4 := h.2.2.1
  refine An.fn (An.bind (l11Copy_a hs) fun y hy => ?_)
  subst hy
  dsimp only [pE]
  have s0 := sm_rec (k := 0) sm_no ⟨#[]⟩ (by decide) false 0 0
  have s3 := sm_rec (k := 3) sm_no name (by omega) yes 0 0
  refine An.bind (ReadyAt_a hb.2.2.1 name) fun y2 g2 => An.dec (fun _ => An.ret ⟨h, s0⟩) fun h2 => ?_
  rcases g2 with ⟨rfl, _⟩ | ⟨i, hi, rfl, _, _⟩
  · exact absurd h2 (by decide)
  obtain ⟨m1, m2, m3⟩ := h.1.2.2.2.2.2.2.2.1.1 _ (List.getElem_mem hi)
  have mem := List.getElem_mem hi
  rw [rd_get _ _ _ hi]
  generalize e.1.2.2.1[i] = t at *
  have hid : t.1 ∈ idsOf e.1 := List.mem_append.2 (.inr (List.mem_map_of_mem mem))
  have hlt := h.1.2.2.2.2.2.2.2.2.2 _ hid
  have hpast : t.1 ∉ e.1.2.1.map (·.1) := fun hm => by
    have := h.1.2.2.2.2.2.2.2.2.1
    rw [idsOf, List.nodup_append] at this
    exact this.2.2 _ hm _ (List.mem_map_of_mem mem) rfl
  have G : An (fun k => spec_GivenUp_k (e.1, name) (fun y6 => spec_Tidied_k (y6, e.2) (fun y7 => k ((y7, e.2), 3, 0, 0, 0, 0, false, ⟨#[]⟩, name, yes, 0, 0, 0)))) (fun z : fT => EI z.1 ∧ Sm tRecord (recF z)) :=
    An.bind (GivenUp_a hs'.1 name) fun y6 h6 => by
      subst h6
      exact An.bind (Tidied_a (sm_base (BOk_gu h.1 name)) (by omega)) fun y7 h7 => An.ret ⟨by
        rw [h7]
        refine EI_td (BOk_gu h.1 name) (fun r hr => h.2.1 r (List.mem_filter.1 hr).1) h4 (fun s hs2 => ?_) _
        obtain ⟨n1, n2, n3, n4, n5⟩ := h.2.2.2 s hs2
        exact ⟨n1, n2, n3, n4, fun hm => n5 ((ids_sub (b := e.1) (c := guF e.1 name) (List.Sublist.refl _) List.filter_sublist).subset hm)⟩, s3⟩
  refine An.bif (fun hy => An.bind (l11Full_a _) fun y3 g3 => An.bif (fun _ => An.ret ⟨h, s0⟩) fun h3 => An.bif (fun _ => ?_) fun _ => G) fun hy => An.bif (fun h => absurd h (by rw [hy]; decide)) fun _ => G
  obtain ⟨k1, k2, k3⟩ := g3 h3
  have hth := BOk_th h.1 m1 m3 hlt hpast k1 k2 k3
  refine An.ite (by omega) (An.bind (Through_a hs'.1 (sm_txn m1) (by omega) (by have := m1.2.2.2.2.1.len; omega)) fun y4 h5 => ?_)
  subst h5
  dsimp only [pB]
  refine An.bind (Tidied_a (b := thF e.1 t) (sm_base hth) (by omega)) fun y5 h5 => An.ret ⟨?_, s3⟩
  rw [h5]
  have c1 : (thF e.1 t).2.2.2.1 = e.1.2.2.2.1 + 1 := W_eq (by have := h.1.2.2.2.1; omega) (by omega)
  have c2 : (thF e.1 t).2.2.2.2 = e.1.2.2.2.2 := by show nxF _ _ = _; rw [nxF, decide_eq_false (by omega)]; rfl
  refine EI_td hth (Nm_th h.2.1 t) h4 (fun s hs2 => ?_) _
  obtain ⟨n1, n2, n3, n4, n5⟩ := h.2.2.2 s hs2
  exact ⟨n1, n2, by rw [c2]; exact n3, by rw [c1]; omega, fun hm => (ids_th hm).elim (fun e1 => n5 (e1 ▸ hid)) n5⟩
end Go.VE
namespace Go.VE
set_option linter.unusedVariables false
set_option linter.unusedSimpArgs false
theorem bytesOf_size (xs : List Int) : (bytesOf xs).size = xs.length := by
  have key : ∀ (xs : List Int) (a : ByteArray), (xs.foldl (fun s n => s.push (UInt8.ofNat n.toNat)) a).size = a.size + xs.length := by
    intro xs
    induction xs with
    | nil => intro a; rfl
    | cons n xs ih => intro a; rw [List.foldl_cons, ih, ByteArray.size_push, List.length_cons]; omega
  rw [bytesOf, key]
  exact Nat.zero_add _
theorem l01Var_a {n : Int} (hn : n ≤ 1000000000) : An (spec_l01Var_k n) (fun z => z.size ≤ 5) := by
  refine An.fn (An.bind (P := fun z => z.2.length ≤ 4) (An.loop 5 (fun i x => x.2.length = i ∧ i ≤ 4 ∧ x.1 ≤ 1000000000 ∧ (1 ≤ i → x.1 ≤ 7812500) ∧ (2 ≤ i → x.1 ≤ 61035) ∧ (3 ≤ i → x.1 ≤ 476) ∧ (4 ≤ i → x.1 ≤ 3)) (by omega) ⟨rfl, by omega, hn, by omega, by omega, by omega, by omega⟩ ?_) fun v hv => An.ite (by simp [maxLen_eq]; omega) (An.ret (by rw [bytesOf_size]; simp; omega)))
  rintro i ⟨x, acc⟩ ⟨h1, h2, h3, h4, h5, h6, h7⟩
  refine An.lb ?_
  dsimp only at h1 h2 h3 h4 h5 h6 h7 ⊢
  refine An.dec (fun h => An.ite (by simp [maxLen_eq]; omega) (An.ret ?_)) fun _ => An.ret (by show acc.length ≤ 4; omega)
  have e : x.tdiv 128 = x / 128 := Int.tdiv_eq_ediv_of_nonneg (by omega)
  rw [e, W_eq (by omega) (by omega)]
  refine ⟨by omega, by simp; omega, by omega, by dsimp only; omega, fun h => ?_, fun h => ?_, fun h => ?_, fun h => ?_⟩
  · dsimp only; omega
  · have := h4 (by omega); dsimp only; omega
  · have := h5 (by omega); dsimp only; omega
  · have := h6 (by omega); dsimp only; omega
theorem l07Short_a {s : ByteArray} (hs : s.size ≤ 1000000) : An (spec_l07Short_k s) (fun z => z.size ≤ s.size + 5) :=
  An.fn (An.bind (l01Var_a (by omega)) fun y hy => An.ite (by omega) (An.ret (by rw [ByteArray.size_append]; omega)))
theorem l07Bit_a (b : Bool) : An (spec_l07Bit_k b) (fun z => z.size = 1) := An.fn (An.bif (fun _ => An.ret rfl) fun _ => An.ret rfl)
theorem SumMore_a {s : ByteArray} (hs : s.size ≤ 100000000) (c : Int) : An (spec_SumMore_k (c, s)) (fun _ => True) := by
  refine An.fn (An.bind (P := fun _ => True) (An.loop (s.size + 1) (fun i x => x.2 = (i : Int) ∧ i ≤ s.size) (by omega) ⟨rfl, by omega⟩ ?_) fun _ _ => An.ret trivial)
  rintro i ⟨c, _⟩ ⟨rfl, h1⟩
  refine An.lb ?_
  dsimp only
  refine An.dec (fun h => An.ite (by omega) (An.bind (P := fun _ => True) (An.loop 9 (fun k x => x.2 = (k : Int) ∧ k ≤ 8) (by omega) ⟨rfl, by omega⟩ ?_) fun _ _ => An.ret ⟨by omega, wsucc (by omega), by omega⟩)) fun _ => An.ret trivial
  rintro k ⟨d, _⟩ ⟨rfl, h2⟩
  refine An.lb ?_
  dsimp only
  exact An.dec (fun h3 => An.beq (fun _ => An.ret ⟨by omega, wsucc (by omega), by omega⟩) fun _ => An.ret ⟨by omega, wsucc (by omega), by omega⟩) fun _ => An.ret trivial
theorem SumOf_a {s : ByteArray} (hs : s.size ≤ 100000000) : An (spec_SumOf_k s) (fun _ => True) := An.fn (An.bind (SumMore_a hs _) fun _ _ => An.ret trivial)
theorem l02Four_a (c : Int) : An (spec_l02Four_k c) (fun z => z.size = 4) := An.fn (An.ret (bytesOf_size _))
theorem Sealed_a {s : ByteArray} (hs : s.size ≤ 100000000) : An (spec_Sealed_k s) (fun z => z.1.size ≤ 20004) :=
  An.fn (An.dec (fun _ => An.ret (by show (0 : Nat) ≤ _; omega)) fun h => An.bind (SumOf_a hs) fun _ _ => An.bind (l02Four_a _) fun y hy => An.ite (by omega) (An.ret (by rw [ByteArray.size_append]; omega)))
theorem TxnText_a {t : dTxn} (hs : Sm tTxn t) : An (spec_TxnText_k t) (fun z => z.1.size ≤ 1000) := by
  refine An.fn (An.bind (TxnOk_a hs) fun y1 g1 => An.nt (fun _ => An.ret (by show (0 : Nat) ≤ _; omega)) fun h1 => ?_)
  have ht := g1.1 h1
  have hw := ht.2.2.2.2.1
  have hname := ht.name
  have c4 : t.2.2.2.1 ≤ 9999 := by
    by_cases h : t.2.1 = 3
    · exact (ht.2.2.2.2.2.2.1 h).2
    · have := ht.2.2.2.2.2.2.2.1 h; omega
  have c1 := ht.1
  have c2 := ht.2.1
  have c3 := ht.2.2.1
  have c5 := ht.2.2.2.1
  have c6 := hw.2.2
  refine An.bind (l01Var_a (by omega)) fun y2 g2 => An.bind (l01Var_a (by omega)) fun y3 g3 => An.ite (by omega) (An.bind (l01Var_a (by omega)) fun y4 g4 => An.ite (by simp only [ByteArray.size_append]; omega) (An.bind (l01Var_a (by omega)) fun y5 g5 => An.ite (by simp only [ByteArray.size_append]; omega) (An.bind (l01Var_a (by omega)) fun y6 g6 => An.ite (by simp only [ByteArray.size_append]; omega)
    (An.bind (P := fun z => z.1.size ≤ 300) (An.loop 9 (fun i x => x.2 = (i : Int) ∧ i ≤ t.2.2.2.2.1.length ∧ x.1.size ≤ 25 + 16 * i) (by omega) ⟨rfl, by omega, by simp only [ByteArray.size_append]; omega⟩ ?_) fun z7 g7 => An.bind (l01Var_a (by omega)) fun y8 g8 => An.ite (by omega)
    (An.bind (P := fun z => z.1.size ≤ 700) (An.loop 9 (fun i x => x.2 = (i : Int) ∧ i ≤ t.2.2.2.2.2.1.length ∧ x.1.size ≤ 305 + 40 * i) (by omega) ⟨rfl, by omega, by simp only [ByteArray.size_append]; omega⟩ ?_) fun z9 g9 => An.bind (l07Bit_a _) fun y10 g10 => An.ite (by omega) (An.bind (l07Short_a (by omega)) fun y11 g11 => An.ite (by simp only [ByteArray.size_append]; omega) (An.ret (by simp only [ByteArray.size_append]; omega))))))))
  · rintro i ⟨s, _⟩ ⟨rfl, h2, h3⟩
    refine An.lb ?_
    dsimp only at h3 ⊢
    refine An.dec (fun h => ?_) fun _ => An.ret (by show s.size ≤ 300; omega)
    have hi : i < t.2.2.2.2.1.length := by omega
    rw [rd_get _ _ _ hi]
    have hr := ht.2.2.2.2.2.1 _ (List.getElem_mem hi)
    have r1 := hr.1.le
    have r2 := hr.2.1.le
    exact An.ite (by omega) (An.ite (by omega) (An.bind (l07Short_a (by omega)) fun y k1 => An.ite (by omega) (An.bind (l07Short_a (by omega)) fun y' k2 => An.ite (by simp only [ByteArray.size_append]; omega) (An.ret ⟨by omega, wsucc (by omega), by omega, by simp only [ByteArray.size_append]; omega⟩))))
  · rintro i ⟨s, _⟩ ⟨rfl, h2, h3⟩
    refine An.lb ?_
    dsimp only at h3 ⊢
    refine An.dec (fun h => ?_) fun _ => An.ret (by show s.size ≤ 700; omega)
    have hi : i < t.2.2.2.2.2.1.length := by omega
    rw [rd_get _ _ _ hi]
    have hr := hw.1 _ (List.getElem_mem hi)
    have r1 := hr.1.le
    have r2 := hr.2.1
    exact An.ite (by omega) (An.ite (by omega) (An.ite (by omega) (An.bind (l07Short_a (by omega)) fun y k1 => An.ite (by omega) (An.bind (l07Short_a (by omega)) fun y' k2 => An.ite (by simp only [ByteArray.size_append]; omega) (An.bind (l07Bit_a _) fun y2 k3 => An.ite (by simp only [ByteArray.size_append]; omega) (An.ret ⟨by omega, wsucc (by omega), by omega, by simp only [ByteArray.size_append]; omega⟩))))))
theorem l10Txns_a {l : List dTxn} (hl : l.length ≤ 100) (hs : ∀ t ∈ l, Sm tTxn t) : An (spec_l10Txns_k l) (fun z => z.size ≤ 5 + 1000 * l.length) := by
  refine An.fn (An.bind (l01Var_a (by omega)) fun y1 g1 => An.bind (P := fun z => z.1.size ≤ 5 + 1000 * l.length) (An.loop 101 (fun i x => x.2 = (i : Int) ∧ i ≤ l.length ∧ x.1.size ≤ 5 + 1000 * i) (by omega) ⟨rfl, by omega, by dsimp only; omega⟩ ?_) fun z hz => An.ret hz)
  rintro i ⟨s, _⟩ ⟨rfl, h2, h3⟩
  refine An.lb ?_
  dsimp only at h3 ⊢
  refine An.dec (fun h => ?_) fun _ => An.ret (by show s.size ≤ _; omega)
  have hi : i < l.length := by omega
  rw [rd_get _ _ _ hi]
  exact An.ite (by omega) (An.bind (TxnText_a (hs _ (List.getElem_mem hi))) fun y k => An.ite (by omega) (An.ret ⟨by omega, wsucc (by omega), by omega, by simp only [ByteArray.size_append]; omega⟩))
theorem BaseText_a {b : dBase} (hs : Sm tBase b) : An (spec_BaseText_k b) (fun z => z.1.size ≤ 100000) := by
  refine An.fn (An.bind (BaseOk_a hs) fun y1 g1 => An.nt (fun _ => An.ret (by show (0 : Nat) ≤ _; omega)) fun h1 => ?_)
  have hb := g1.1 h1
  have c1 := hb.2.2.2.1
  have c2 := hb.2.2.2.2.1
  have c3 := hb.1.2.2
  have c4 := hb.2.1
  have c5 := hb.2.2.1
  refine An.bind (l01Var_a (by omega)) fun y2 g2 => An.bind (l01Var_a (by omega)) fun y3 g3 => An.ite (by omega) (An.bind (l01Var_a (by omega)) fun y4 g4 => An.ite (by simp only [ByteArray.size_append]; omega)
    (An.bind (P := fun z => z.1.size ≤ 15 + 40 * 120) (An.loop 121 (fun i x => x.2 = (i : Int) ∧ i ≤ b.1.length ∧ x.1.size ≤ 15 + 40 * i) (by omega) ⟨rfl, by omega, by simp only [ByteArray.size_append]; omega⟩ ?_) fun z5 g5 =>
    An.bind (l10Txns_a (by omega) fun t ht => sm_txn (hb.2.2.2.2.2.2.1.1 t ht).1) fun y6 g6 => An.ite (by omega) (An.bind (l10Txns_a (by omega) fun t ht => sm_txn (hb.2.2.2.2.2.2.2.1.1 t ht).1) fun y7 g7 => An.ite (by simp only [ByteArray.size_append]; omega) (An.ret (by simp only [ByteArray.size_append]; omega)))))
  rintro i ⟨s, _⟩ ⟨rfl, h2, h3⟩
  refine An.lb ?_
  dsimp only at h3 ⊢
  refine An.dec (fun h => ?_) fun _ => An.ret (by show s.size ≤ _; omega)
  have hi : i < b.1.length := by omega
  rw [rd_get _ _ _ hi]
  have hr := hb.1.1 _ (List.getElem_mem hi)
  have r1 := hr.1.le
  have r2 := hr.2.1
  have r3 := hr.2.2.2
  exact An.ite (by omega) (An.bind (l07Short_a (by omega)) fun y k1 => An.ite (by omega) (An.bind (l07Short_a (by omega)) fun y' k2 => An.ite (by simp only [ByteArray.size_append]; omega) (An.bind (l07Bit_a _) fun y2 k3 => An.ite (by simp only [ByteArray.size_append]; omega) (An.bind (l01Var_a (by omega)) fun y3 k4 => An.ite (by simp only [ByteArray.size_append]; omega) (An.ret ⟨by omega, wsucc (by omega), by omega, by simp only [ByteArray.size_append]; omega⟩)))))
theorem l10NoTxn_a (t : dTxn) : An (spec_l10NoTxn_k t) (fun _ => True) :=
  An.fn (An.bif (fun _ => An.bif (fun _ => An.bif (fun _ => An.bif (fun _ => An.bif (fun _ => An.bif (fun _ => An.bif (fun _ => An.ret trivial) fun _ => An.ret trivial) fun _ => An.ret trivial) fun _ => An.ret trivial) fun _ => An.ret trivial) fun _ => An.ret trivial) fun _ => An.ret trivial) fun _ => An.ret trivial)
theorem l10NoBase_a (b : dBase) : An (spec_l10NoBase_k b) (fun _ => True) :=
  An.fn (An.bif (fun _ => An.bif (fun _ => An.bif (fun _ => An.bif (fun _ => An.ret trivial) fun _ => An.ret trivial) fun _ => An.ret trivial) fun _ => An.ret trivial) fun _ => An.ret trivial)
theorem RecordOk_6 {r : dRecord} (hs : Sm tRecord r) : An (spec_RecordOk_j5000006 r ()) (fun z => z = true → r.1 = 4 → BOk r.2.2.2.2) := by
  have hs' := smRecord.1 hs
  have h8 : An (fun k => spec_RecordOk_j5000008 r () (fun z => k z)) (fun z => z = true → r.1 = 4 → BOk r.2.2.2.2) := An.lb (An.beq (fun _ => An.bind (BaseOk_a hs'.2.2) fun y hy => An.ret fun h _ => hy.1 h) fun h => An.bind (l10NoBase_a _) fun _ _ => An.ret fun _ h4 => absurd h4 h)
  exact An.lb (An.beq (fun _ => An.bind (KeyOk_a hs'.2.1) fun _ _ => An.nt (fun _ => An.ret nofun) fun _ => An.bne (fun _ => An.nt (fun _ => An.ret nofun) fun _ => An.bif (fun _ => An.ret nofun) fun _ => h8) fun _ => h8) fun _ => An.bne (fun _ => An.nt (fun _ => An.ret nofun) fun _ => An.bif (fun _ => An.ret nofun) fun _ => h8) fun _ => h8)
theorem RecordOk_4 {r : dRecord} (hs : Sm tRecord r) (x : Bool) : An (spec_RecordOk_j5000004 r x) (Sum.elim (fun _ => True) fun z => z = true → (r.1 = 4 → BOk r.2.2.2.2) ∧ (x = true → TOk r.2.1)) := by
  have hs' := smRecord.1 hs
  have h6 : (x = true → TOk r.2.1) → An (fun k => spec_RecordOk_j5000006 r () (fun z => k (.inr z))) (Sum.elim (fun _ : Bool => True) fun z => z = true → (r.1 = 4 → BOk r.2.2.2.2) ∧ (x = true → TOk r.2.1)) := fun h => An.bind (RecordOk_6 hs) fun z hz => An.ret fun h1 => ⟨hz h1, h⟩
  refine An.lb (An.bif (fun hx => An.bind (TxnOk_a hs'.1) fun y gy => An.nt (fun _ => An.ret trivial) fun hy => ?_) fun hx => ?_)
  · have h7 := h6 fun _ => gy.1 hy
    repeat' first | exact h7 | exact An.ret trivial | refine An.beq (fun _ => ?_) fun _ => ?_ | refine An.bne (fun _ => ?_) fun _ => ?_ | refine An.bind (l10NoTxn_a _) fun _ _ => An.nt (fun _ => An.ret trivial) fun _ => ?_ | refine An.nt (fun _ => ?_) fun _ => ?_
  · have h7 := h6 fun h => by rw [h] at hx; cases hx
    repeat' first | exact h7 | exact An.ret trivial | refine An.beq (fun _ => ?_) fun _ => ?_ | refine An.bne (fun _ => ?_) fun _ => ?_ | refine An.bind (l10NoTxn_a _) fun _ _ => An.nt (fun _ => An.ret trivial) fun _ => ?_ | refine An.nt (fun _ => ?_) fun _ => ?_
theorem RecordOk_a {r : dRecord} (hs : Sm tRecord r) : An (spec_RecordOk_k r) (fun z => z = true → (1 ≤ r.1 ∧ r.1 ≤ 4) ∧ (r.1 = 4 → BOk r.2.2.2.2) ∧ (r.1 = 1 ∨ r.1 = 2 → TOk r.2.1)) := by
  refine An.fn (An.bind (l01In_a _ _ _) fun y g => An.nt (fun _ => An.ret nofun) fun h => An.beq (fun _ => An.bind2 (RecordOk_4 hs true) (fun _ _ => An.ret nofun) fun z hz => An.ret fun h1 => ⟨g.1 h, (hz h1).1, fun _ => (hz h1).2 rfl⟩) fun h1 => An.bind2 (RecordOk_4 hs (r.1 == 2)) (fun _ _ => An.ret nofun) fun z hz => An.ret fun h2 => ⟨g.1 h, (hz h2).1, fun h3 => (hz h2).2 ?_⟩)
  rcases h3 with h3 | h3
  · exact absurd h3 h1
  · rw [h3]; rfl
theorem RecordText_a {r : dRecord} (hs : Sm tRecord r) : An (spec_RecordText_k r) (fun z => z.1.size ≤ 20004 ∧ (z.2 = true → (r.1 = 4 → BOk r.2.2.2.2) ∧ (r.1 = 1 ∨ r.1 = 2 → TOk r.2.1))) := by
  have hs' := smRecord.1 hs
  have b1 : (bytesOf [W8 r.1]).size = 1 := bytesOf_size _
  refine An.fn (An.bind (RecordOk_a hs) fun y g => An.nt (fun _ => An.ret ⟨by show (0 : Nat) ≤ _; omega, nofun⟩) fun h => An.beq (fun _ => An.bind (l07Short_a hs'.2.1) fun y2 g2 => An.ite (by omega) (An.bind (l07Bit_a _) fun y3 g3 => An.ite (by simp only [ByteArray.size_append]; omega) (An.bind (Sealed_a (by simp only [ByteArray.size_append]; omega)) fun y4 g4 => An.ret ⟨g4, fun _ => (g h).2⟩))) fun _ => An.beq (fun _ => An.bind (BaseText_a hs'.2.2) fun y2 g2 => An.ite (by omega) (An.bind (Sealed_a (by simp only [ByteArray.size_append]; omega)) fun y4 g4 => An.ret ⟨g4, fun _ => (g h).2⟩)) fun _ => An.bind (TxnText_a hs'.1) fun y2 g2 => An.ite (by omega) (An.bind (Sealed_a (by simp only [ByteArray.size_append]; omega)) fun y4 g4 => An.ret ⟨g4, fun _ => (g h).2⟩))
end Go.VE
namespace Go.VE
set_option linter.unusedVariables false
set_option linter.unusedSimpArgs false
theorem bt_b (s : ByteArray) (i : Int) : 0 ≤ bt s i ∧ bt s i ≤ 255 := by
  unfold bt
  have := (s.data.getD i.toNat 0).toNat_lt
  omega
theorem ReadVar_a {s : ByteArray} (hs : s.size ≤ 1000000) (at' : Int) : An (spec_ReadVar_k (s, at')) (fun z => 0 ≤ z.1 ∧ z.1 ≤ 1000000000 ∧ 0 ≤ z.2.1 ∧ z.2.1 ≤ (s.size : Int)) := by
  refine An.fn (An.bind (l01In_a _ _ _) fun y g => An.nt (fun _ => An.ret ⟨by simp, by simp, by simp, by simp⟩) fun h => ?_)
  have ha := g.1 h
  dsimp only at ha ⊢
  refine An.bind2 (P := fun z => 0 ≤ z.1 ∧ z.1 ≤ 1000000000 ∧ 0 ≤ z.2.1 ∧ z.2.1 ≤ (s.size : Int)) (P' := fun _ => True) (An.loop 6 (fun j x => x.2.2 = at' + (j : Int) ∧ j ≤ 5 ∧ 0 ≤ x.1 ∧ x.1 < x.2.1 ∧ 1 ≤ x.2.1 ∧ x.2.1 ≤ 34359738368 ∧ (j ≤ 4 → x.2.1 ≤ 268435456) ∧ (j ≤ 3 → x.2.1 ≤ 2097152) ∧ (j ≤ 2 → x.2.1 ≤ 16384) ∧ (j ≤ 1 → x.2.1 ≤ 128) ∧ (j = 0 → x.2.1 = 1)) (by omega) ⟨by simp, by omega, by simp, by simp, by simp, by simp, by simp, by simp, by simp, by simp, by simp⟩ ?_) (fun z hz => An.ret hz) fun _ _ => An.ret ⟨by simp, by simp, by simp, by simp⟩
  rintro j ⟨n, sc, i⟩ ⟨h1, h2, h3, h4, h5, h6, h7, h8, h9, h10, h11⟩
  refine An.lb ?_
  dsimp only at h1 h3 h4 h5 h6 h7 h8 h9 h10 h11 ⊢
  subst h1
  have hb := bt_b s (at' + (j : Int))
  rw [W_eq (x := at' + 5) (by omega) (by omega), W_eq (x := at' + (j : Int) + 1) (by omega) (by omega), W_eq (x := bt s (at' + (j : Int))) (by omega) (by omega)]
  refine An.dec (fun k1 => An.dec (fun k2 => An.ite (by omega) (An.ite (by omega) ?_)) fun _ => An.ret trivial) fun _ => An.ret trivial
  generalize bt s (at' + (j : Int)) = b at hb ⊢
  have m1 : 0 ≤ b.tmod 128 := Int.tmod_nonneg _ (by omega)
  have m2 : b.tmod 128 < 128 := Int.tmod_lt_of_pos _ (by omega)
  generalize b.tmod 128 = m at m1 m2
  have p1 : 0 ≤ m * sc := Int.mul_nonneg m1 (by omega)
  have p2 : m * sc ≤ 127 * sc := Int.mul_le_mul_of_nonneg_right (by omega) (by omega)
  have h7' := h7 (by omega)
  rw [W_eq (x := m * sc) (by omega) (by omega), W_eq (x := n + m * sc) (by omega) (by omega), W_eq (x := sc * 128) (by omega) (by omega)]
  refine An.dec (fun k3 => An.dec (fun _ => An.ret ⟨by simp, by simp, by simp, by simp⟩) fun k4 => An.ite (by omega) (An.bind (l01Var_a (by omega)) fun y4 _ => An.nt (fun _ => An.ret ⟨by simp, by simp, by simp, by simp⟩) fun _ => An.ret ⟨by dsimp only; omega, by dsimp only; omega, by dsimp only; omega, by dsimp only; omega⟩)) fun _ => An.ret ?_
  exact ⟨by omega, by dsimp only; omega, by omega, by dsimp only; omega, by dsimp only; omega, by dsimp only; omega, by dsimp only; omega, fun h => by have := h8 (by omega); dsimp only; omega, fun h => by have := h9 (by omega); dsimp only; omega, fun h => by have := h10 (by omega); dsimp only; omega, fun h => by have := h11 (by omega); dsimp only; omega, fun h => by omega⟩
theorem ReadShort_a {s : ByteArray} (hs : s.size ≤ 1000000) (at' : Int) : An (spec_ReadShort_k (s, at')) (fun z => z.1.size ≤ 20000 ∧ 0 ≤ z.2.1 ∧ z.2.1 ≤ (s.size : Int)) := by
  have z0 : (⟨#[]⟩ : ByteArray).size ≤ 20000 := by show (0 : Nat) ≤ _; omega
  refine An.fn (An.bind (ReadVar_a hs at') fun y g => An.nt (fun _ => An.ret ⟨z0, by simp, by simp⟩) fun _ => An.dec (fun _ => An.ret ⟨z0, by simp, by simp⟩) fun h1 => An.dec (fun _ => An.ret ⟨z0, by simp, by simp⟩) fun h2 => ?_)
  rw [W_eq (by omega) (by dsimp only; omega)] at h2
  rw [W_eq (x := y.2.1 + y.1) (by omega) (by omega)]
  dsimp only at h2 ⊢
  refine An.ite (by omega) (An.ret ⟨?_, by dsimp only; omega, by dsimp only; omega⟩)
  rw [ByteArray.size_extract]
  omega
theorem Unsealed_a {s : ByteArray} (hs : s.size ≤ 1000000) : An (spec_Unsealed_k s) (fun z => z.1.size ≤ 20000) := by
  have z0 : (⟨#[]⟩ : ByteArray).size ≤ 20000 := by show (0 : Nat) ≤ _; omega
  have hw := W_eq (x := (s.size : Int) - 4) (by omega) (by omega)
  refine An.fn ?_
  dsimp only
  rw [hw]
  have e : (s.extract (Int.toNat 0) (Int.toNat ((s.size : Int) - 4))).size ≤ s.size := by rw [ByteArray.size_extract]; omega
  refine An.dec (fun _ => An.ret z0) fun h1 => An.dec (fun _ => An.ret z0) fun h2 => An.ite (by omega) (An.ite (by omega) (An.bind (SumOf_a (by omega)) fun _ _ => An.bind (l02Four_a _) fun _ _ => An.nt (fun _ => An.ret z0) fun _ => An.ite (by omega) (An.ret ?_)))
  rw [ByteArray.size_extract]
  omega
/-- A reader of a text that is not long. -/
def RI (s : ByteArray) (c : ByteArray × (Int × Bool)) : Prop := c.1 = s ∧ 0 ≤ c.2.1
theorem rShort {s : ByteArray} (hs : s.size ≤ 1000000) {c : ByteArray × (Int × Bool)} (h : RI s c) : An (spec_l07ReadShort_k c) (fun z => z.1.size ≤ 20000 ∧ RI s z.2) := by
  obtain ⟨rfl, h⟩ := h
  have z0 : (⟨#[]⟩ : ByteArray).size ≤ 20000 := by show (0 : Nat) ≤ _; omega
  exact An.fn (An.bind (ReadShort_a hs _) fun y g => An.bif (fun _ => An.ret ⟨z0, rfl, h⟩) fun _ => An.nt (fun _ => An.ret ⟨z0, rfl, h⟩) fun _ => An.ret ⟨g.1, rfl, g.2.1⟩)
theorem rBit {s : ByteArray} (hs : s.size ≤ 1000000) {c : ByteArray × (Int × Bool)} (h : RI s c) : An (spec_l07ReadBit_k c) (fun z => RI s z.2) := by
  obtain ⟨rfl, h⟩ := h
  refine An.fn (An.bif (fun _ => An.ret ⟨rfl, h⟩) fun _ => An.dec (fun _ => An.ret ⟨rfl, h⟩) fun h1 => An.ite (by omega) (An.dec (fun _ => An.ret ⟨rfl, h⟩) fun _ => ?_))
  rw [W_eq (x := c.2.1 + 1) (by omega) (by omega), W_eq (x := c.2.1 + 1 - 1) (by omega) (by omega)]
  exact An.ite (by omega) (An.ret ⟨rfl, by dsimp only; omega⟩)
theorem rVar {s : ByteArray} (hs : s.size ≤ 1000000) {c : ByteArray × (Int × Bool)} (h : RI s c) : An (spec_l07Var_k c) (fun z => RI s z.2) := by
  obtain ⟨rfl, h⟩ := h
  exact An.fn (An.bind (ReadVar_a hs _) fun y g => An.bif (fun _ => An.ret ⟨rfl, h⟩) fun _ => An.nt (fun _ => An.ret ⟨rfl, h⟩) fun _ => An.ret ⟨rfl, g.2.2.1⟩)
theorem ReadTxn_a {s : ByteArray} (hs : s.size ≤ 1000000) {at' : Int} (h0 : 0 ≤ at') : An (spec_ReadTxn_k (s, at')) (fun z => Sm tTxn z.1 ∧ 0 ≤ z.2.1) := by
  have t0 : Sm tTxn (0, 0, 0, 0, [], [], false, ⟨#[]⟩) ∧ (0 : Int) ≤ 0 := ⟨sm_no, by omega⟩
  refine An.fn (An.bind (rVar hs (c := (s, at', false)) ⟨rfl, h0⟩) fun y1 g1 => An.bind (rVar hs g1) fun y2 g2 => An.bind (rVar hs g2) fun y3 g3 => An.bind (rVar hs g3) fun y4 g4 => An.bind (rVar hs g4) fun y5 g5 =>
    An.bind (P := fun z => RI s z.2.1 ∧ z.2.2.length ≤ 10 ∧ ∀ r ∈ z.2.2, Sm tRange r) (An.loop 11 (fun i x => x.1 = (i : Int) ∧ i ≤ 10 ∧ RI s x.2.1 ∧ x.2.2.length ≤ i ∧ ∀ r ∈ x.2.2, Sm tRange r) (by omega) ⟨rfl, by omega, g5, by simp, nofun⟩ ?_) fun z6 g6 => An.bind (rVar hs g6.1) fun y7 g7 =>
    An.bind (P := fun z => RI s z.2.1 ∧ z.2.2.length ≤ 10 ∧ ∀ r ∈ z.2.2, Sm tWrite r) (An.loop 11 (fun i x => x.1 = (i : Int) ∧ i ≤ 10 ∧ RI s x.2.1 ∧ x.2.2.length ≤ i ∧ ∀ r ∈ x.2.2, Sm tWrite r) (by omega) ⟨rfl, by omega, g7, by simp, nofun⟩ ?_) fun z8 g8 => An.bind (rBit hs g8.1) fun y9 g9 => An.bind (rShort hs g9) fun y10 g10 => ?_)
  · rintro i ⟨_, c, l⟩ ⟨rfl, h1, h2, h3, h4⟩
    refine An.lb ?_
    dsimp only at h2 h3 h4 ⊢
    refine An.dec (fun _ => An.dec (fun h5 => An.nt (fun _ => An.bind (rShort hs h2) fun y k1 => An.bind (rShort hs k1.2) fun y' k2 => An.ite (by simp [maxLen_eq]; omega) (An.ret ⟨by omega, wsucc (by omega), by omega, k2.2, by simp; omega, fun r hr => ?_⟩)) fun _ => An.ret ⟨h2, by show l.length ≤ 10; omega, h4⟩) fun _ => An.ret ⟨h2, by show l.length ≤ 10; omega, h4⟩) fun _ => An.ret ⟨h2, by show l.length ≤ 10; omega, h4⟩
    rcases List.mem_append.1 hr with hr | hr
    · exact h4 r hr
    · rw [List.mem_singleton.1 hr]
      exact smRange.2 ⟨by have := k1.1; dsimp only; omega, by have := k2.1; dsimp only; omega⟩
  · rintro i ⟨_, c, l⟩ ⟨rfl, h1, h2, h3, h4⟩
    refine An.lb ?_
    dsimp only at h2 h3 h4 ⊢
    refine An.dec (fun _ => An.dec (fun h5 => An.nt (fun _ => An.bind (rShort hs h2) fun y k1 => An.bind (rShort hs k1.2) fun y' k2 => An.bind (rBit hs k2.2) fun y2 k3 => An.ite (by simp [maxLen_eq]; omega) (An.ret ⟨by omega, wsucc (by omega), by omega, k3, by simp; omega, fun r hr => ?_⟩)) fun _ => An.ret ⟨h2, by show l.length ≤ 10; omega, h4⟩) fun _ => An.ret ⟨h2, by show l.length ≤ 10; omega, h4⟩) fun _ => An.ret ⟨h2, by show l.length ≤ 10; omega, h4⟩
    rcases List.mem_append.1 hr with hr | hr
    · exact h4 r hr
    · rw [List.mem_singleton.1 hr]
      exact smWrite.2 ⟨by have := k1.1; dsimp only; omega, by have := k2.1; dsimp only; omega⟩
  · have sm : Sm tTxn (y1.1, (y2.1, (y3.1, (y4.1, (z6.2.2, (z8.2.2, (y9.1, y10.1))))))) := smTxn.2 ⟨⟨by have := g6.2.1; dsimp only; omega, g6.2.2⟩, ⟨by have := g8.2.1; dsimp only; omega, g8.2.2⟩, by have := g10.1; dsimp only; omega⟩
    exact An.bif (fun _ => An.ret t0) fun _ => An.bind (TxnOk_a sm) fun _ _ => An.nt (fun _ => An.ret t0) fun _ => An.ret ⟨sm, g10.2.2⟩
theorem l10ReadTxns_a {s : ByteArray} (hs : s.size ≤ 1000000) {c : ByteArray × (Int × Bool)} (h : RI s c) {n : Nat} (hn : n ≤ 100) : An (spec_l10ReadTxns_k ((n : Int), c)) (fun z => RI s z.1 ∧ z.2.length ≤ 1000 ∧ ∀ t ∈ z.2, Sm tTxn t) := by
  refine An.fn (An.bind (rVar hs h) fun y1 g1 => An.bind2 (P := fun z => RI s z.2.1 ∧ z.2.2.length ≤ 1000 ∧ ∀ t ∈ z.2.2, Sm tTxn t) (P' := fun z => RI s z.2.1 ∧ z.2.2.2.length ≤ 1000 ∧ ∀ t ∈ z.2.2.2, Sm tTxn t) (An.loop 200 (fun i x => x.1 = (i : Int) ∧ i ≤ 101 ∧ RI s x.2.1 ∧ x.2.2.2.length ≤ i ∧ ∀ t ∈ x.2.2.2, Sm tTxn t) (by omega) ⟨rfl, by omega, g1, by simp, nofun⟩ ?_) (fun z hz => An.ret hz) fun z hz => An.ret hz)
  rintro i ⟨_, c, l', l⟩ ⟨rfl, h1, h2, h3, h4⟩
  obtain ⟨k1, k2⟩ := h2
  refine An.lb ?_
  dsimp only at h3 h4 k1 k2 ⊢
  have fin : RI s c ∧ l.length ≤ 1000 ∧ ∀ t ∈ l, Sm tTxn t := ⟨⟨k1, k2⟩, by omega, h4⟩
  refine An.dec (fun _ => An.dec (fun h5 => An.nt (fun _ => An.bind (ReadTxn_a (s := c.1) (by rw [k1]; exact hs) k2) fun y4 g4 => An.nt (fun _ => An.ret ⟨⟨k1, k2⟩, fin.2⟩) fun _ => An.ite (by simp [maxLen_eq]; omega) (An.ret ⟨by omega, wsucc (by omega), by omega, ⟨k1, g4.2⟩, by simp; omega, fun t ht => ?_⟩)) fun _ => An.ret fin) fun _ => An.ret fin) fun _ => An.ret fin
  rcases List.mem_append.1 ht with ht | ht
  · exact h4 t ht
  · rw [List.mem_singleton.1 ht]; exact g4.1
theorem ReadBase_a {s : ByteArray} (hs : s.size ≤ 1000000) {at' : Int} (h0 : 0 ≤ at') : An (spec_ReadBase_k (s, at')) (fun z => Sm tBase z.1) := by
  have t0 : Sm tBase ([], [], [], 0, 0) := smBase.2 ⟨⟨by simp, nofun⟩, ⟨by simp, nofun⟩, ⟨by simp, nofun⟩⟩
  refine An.fn (An.bind (rVar hs (c := (s, at', false)) ⟨rfl, h0⟩) fun y1 g1 => An.bind (rVar hs g1) fun y2 g2 => An.bind (rVar hs g2) fun y3 g3 =>
    An.bind (P := fun z => RI s z.2.1 ∧ z.2.2.length ≤ 130 ∧ ∀ r ∈ z.2.2, Sm tVersion r) (An.loop 131 (fun i x => x.1 = (i : Int) ∧ i ≤ 130 ∧ RI s x.2.1 ∧ x.2.2.length ≤ i ∧ ∀ r ∈ x.2.2, Sm tVersion r) (by omega) ⟨rfl, by omega, g3, by simp, nofun⟩ ?_) fun z4 g4 =>
    An.bind (l10ReadTxns_a hs g4.1 (n := 12) (by omega)) fun y5 g5 => An.bind (l10ReadTxns_a hs g5.1 (n := 3) (by omega)) fun y6 g6 => ?_)
  · rintro i ⟨_, c, l⟩ ⟨rfl, h1, h2, h3, h4⟩
    refine An.lb ?_
    dsimp only at h2 h3 h4 ⊢
    refine An.dec (fun _ => An.dec (fun h5 => An.nt (fun _ => An.bind (rShort hs h2) fun y k1 => An.bind (rShort hs k1.2) fun y' k2 => An.bind (rBit hs k2.2) fun y2 k3 => An.bind (rVar hs k3) fun y3 k4 => An.ite (by simp [maxLen_eq]; omega) (An.ret ⟨by omega, wsucc (by omega), by omega, k4, by simp; omega, fun r hr => ?_⟩)) fun _ => An.ret ⟨h2, by show l.length ≤ 130; omega, h4⟩) fun _ => An.ret ⟨h2, by show l.length ≤ 130; omega, h4⟩) fun _ => An.ret ⟨h2, by show l.length ≤ 130; omega, h4⟩
    rcases List.mem_append.1 hr with hr | hr
    · exact h4 r hr
    · rw [List.mem_singleton.1 hr]
      exact smVersion.2 ⟨by have := k1.1; dsimp only; omega, by have := k2.1; dsimp only; omega⟩
  · have sm : Sm tBase (z4.2.2, (y5.2, (y6.2, (y1.1, y2.1)))) := smBase.2 ⟨⟨by have := g4.2.1; dsimp only; omega, g4.2.2⟩, ⟨by have := g5.2.1; dsimp only; omega, g5.2.2⟩, ⟨by have := g6.2.1; dsimp only; omega, g6.2.2⟩⟩
    exact An.bif (fun _ => An.ret t0) fun _ => An.bind (BaseOk_a sm) fun _ _ => An.nt (fun _ => An.ret t0) fun _ => An.ret sm
theorem ReadRecord_a {s : ByteArray} (hs : s.size ≤ 1000000) : An (spec_ReadRecord_k s) (fun z => Sm tRecord z.1) := by
  have b0 : Sm tBase ([], [], [], 0, 0) := smBase.2 ⟨⟨by simp, nofun⟩, ⟨by simp, nofun⟩, ⟨by simp, nofun⟩⟩
  have z0 : (⟨#[]⟩ : ByteArray).size ≤ 1000000 := by show (0 : Nat) ≤ _; omega
  have t0 : Sm tRecord (0, (0, 0, 0, 0, [], [], false, ⟨#[]⟩), ⟨#[]⟩, false, [], [], [], 0, 0) := smRecord.2 ⟨sm_no, z0, b0⟩
  refine An.fn (An.bind (Unsealed_a hs) fun y1 g1 => An.nt (fun _ => An.ret t0) fun _ => An.bif (fun _ => An.ret t0) fun h1 => ?_)
  have hp : 0 < y1.1.size := by
    rcases Nat.eq_zero_or_pos y1.1.size with h | h
    · exfalso
      have : y1.1 = ⟨#[]⟩ := by
        cases hy : y1.1 with | mk d => rw [hy] at h; simp only [ByteArray.mk.injEq]; exact Array.eq_empty_of_size_eq_zero h
      rw [this, strEq_refl] at h1; cases h1
    · exact h
  have hq : y1.1.size ≤ 1000000 := by omega
  refine An.ite (by omega) (An.beq (fun _ => An.bind (rShort hq (c := (y1.1, 1, false)) ⟨rfl, by simp⟩) fun y2 g2 => An.bind (rBit hq g2.2) fun y3 g3 => ?_) fun _ => An.beq (fun _ => An.bind (ReadBase_a hq (by omega)) fun y5 g5 => ?_) fun _ => An.bind (ReadTxn_a hq (by omega)) fun y7 g7 => ?_)
  · have sm : Sm tRecord (W (bt y1.1 0), ((0, 0, 0, 0, [], [], false, ⟨#[]⟩), (y2.1, (y3.1, ([], [], [], 0, 0))))) := smRecord.2 ⟨sm_no, by have := g2.1; dsimp only; omega, b0⟩
    exact An.bind (RecordText_a sm) fun _ _ => An.nt (fun _ => An.ret t0) fun _ => An.nt (fun _ => An.ret t0) fun _ => An.ret sm
  · have sm : Sm tRecord (W (bt y1.1 0), ((0, 0, 0, 0, [], [], false, ⟨#[]⟩), (⟨#[]⟩, (false, y5.1)))) := smRecord.2 ⟨sm_no, z0, g5⟩
    exact An.bind (RecordText_a sm) fun _ _ => An.nt (fun _ => An.ret t0) fun _ => An.nt (fun _ => An.ret t0) fun _ => An.ret sm
  · have sm : Sm tRecord (W (bt y1.1 0), (y7.1, (⟨#[]⟩, (false, ([], [], [], 0, 0))))) := smRecord.2 ⟨g7.1, z0, b0⟩
    exact An.bind (RecordText_a sm) fun _ _ => An.nt (fun _ => An.ret t0) fun _ => An.nt (fun _ => An.ret t0) fun _ => An.ret sm
end Go.VE
namespace Go.VE
set_option linter.unusedVariables false
set_option linter.unusedSimpArgs false
theorem sm_pv {w : List dWrite} (cs : Int) (hw : ∀ x ∈ w, Sm tWrite x) : ∀ {l : List dVersion}, (∀ v ∈ l, Sm tVersion v) → ∀ v ∈ pvF l w cs, Sm tVersion v := by
  induction w with
  | nil => intro l h; exact h
  | cons a w ih =>
    intro l h
    refine ih (fun x hx => hw x (List.mem_cons_of_mem _ hx)) (l := insV l (a.1, a.2.1, a.2.2, cs)) fun v hv => ?_
    rcases insV_mem.1 hv with rfl | hv
    · have := smWrite.1 (hw a (List.mem_cons_self ..))
      exact smVersion.2 this
    · exact h v hv
theorem sm_out {t : dTxn} (h : Sm tTxn t) : Sm tTxn (setOut t) := smTxn.2 (smTxn.1 h)
theorem sm_thF {b : dBase} {t : dTxn} (h : BOk b) (ht : TOk t) : Sm tBase (thF b t) := by
  have hs := smBase.1 (sm_base h)
  have ht' := smTxn.1 (sm_txn ht)
  have h1 := h.1.2.2
  have h2 := h.2.1
  have h3 := h.2.2.1
  have h4 := ht.2.2.2.2.1.len
  refine smBase.2 ⟨⟨by show (pvF _ _ _).length ≤ _; rw [pvF_len]; omega, sm_pv _ ht'.2.1.2 hs.1.2⟩, ⟨by show (b.2.1 ++ [_]).length ≤ _; simp; omega, fun x hx => ?_⟩, by
    have := List.length_filter_le (fun r : dTxn => !(r.1 == t.1)) b.2.2.1
    show (thR _ _ _).length ≤ _
    rw [thR, List.length_map]; omega, fun x hx => ?_⟩
  · rcases List.mem_append.1 hx with hx | hx
    · exact hs.2.1.2 x hx
    · rw [List.mem_singleton.1 hx]; exact sm_thX (sm_txn ht)
  · obtain ⟨s, hs1, _, rfl | rfl⟩ := mem_thR hx
    · exact hs.2.2.2 _ hs1
    · exact sm_out (hs.2.2.2 _ hs1)
theorem sm_mrF {b : dBase} {t : dTxn} (h : BOk b) (ht : TOk t) {name : ByteArray} (hn : name.size ≤ 1000000) : Sm tBase (mrF b t name) := by
  have hs := smBase.1 (sm_base h)
  have ht' := smTxn.1 (sm_txn ht)
  have h3 := h.2.2.1
  have hf := filt2_le (fun y : dTxn => strLess y.2.2.2.2.2.2.2 name) (fun y => !(strLess y.2.2.2.2.2.2.2 name)) b.2.2.1 (fun x h => by simp [h])
  refine smBase.2 ⟨hs.1, hs.2.1, by simp only [mrF, List.length_append, List.length_cons]; omega, fun x hx => ?_⟩
  rcases List.mem_append.1 hx with hx | hx
  · exact hs.2.2.2 _ (List.mem_filter.1 hx).1
  · rcases List.mem_cons.1 hx with rfl | hx
    · exact smTxn.2 ⟨ht'.1, ht'.2.1, hn⟩
    · exact hs.2.2.2 _ (List.mem_filter.1 hx).1
theorem l10Play_a {b : dBase} {r : dRecord} (h : BOk b) (hs : Sm tRecord r) (h4 : r.1 = 4 → BOk r.2.2.2.2) (h1 : r.1 = 1 ∨ r.1 = 2 → TOk r.2.1) (hk : 1 ≤ r.1 ∧ r.1 ≤ 4) : An (spec_l10Play_k (b, r)) (fun z => Sm tBase z.1) := by
  have hb := sm_base h
  have hr := smRecord.1 hs
  have b1 := h.1.2.2
  have b3 := h.2.2.1
  refine An.fn (An.beq (fun e1 => An.bne (fun _ => An.ret hb) fun _ => An.bind (Through_a hb hr.1 (by dsimp only; omega) (by have := (h1 (.inl e1)).2.2.2.2.1.len; dsimp only; omega)) fun y g => An.ret ?_) fun e1 => An.beq (fun e2 => An.dec (fun _ => An.ret hb) fun _ => An.bind (ReadyAt_a (by dsimp only; omega) _) fun y2 g2 => An.dec (fun _ => An.ret hb) fun _ => An.bind (MadeReady_a hb hr.1 _ (by omega)) fun y3 g3 => An.ret ?_) fun e2 => An.beq (fun e3 => An.bind (ReadyAt_a (by dsimp only; omega) _) fun y4 g4 => An.dec (fun _ => An.ret hb) fun h5 => An.bif (fun _ => ?_) fun _ => An.bind (GivenUp_a hb _) fun y6 g6 => An.ret ?_) fun e3 => An.bind (l09Copy_a hr.2.2) fun y7 g7 => An.ret ?_)
  · subst g; exact sm_thF h (h1 (.inl e1))
  · subst g3; exact sm_mrF h (h1 (.inr e2)) (smTxn.1 hr.1).2.2
  · rcases g4 with ⟨rfl, _⟩ | ⟨i, hi, rfl, _, _⟩
    · exact absurd (by decide : (-1 : Int) < 0) h5
    replace hi : i < b.2.2.1.length := hi
    have tk := (h.2.2.2.2.2.2.2.1.1 _ (List.getElem_mem hi)).1
    have bb : ((b, r) : dBase × dRecord).1 = b := rfl
    rw [bb, rd_get _ _ _ hi]
    refine An.ite (by omega) (An.bind (Through_a hb (sm_txn tk) (by omega) (by have := tk.2.2.2.2.1.len; omega)) fun y5 g5 => An.ret ?_)
    subst g5; exact sm_thF h tk
  · subst g6; exact sm_base (BOk_gu h _)
  · subst g7; exact hr.2.2
theorem sm_tdF {b : dBase} (h : Sm tBase b) (o : List dTxn) : Sm tBase (tdF b o) := by
  have hs := smBase.1 h
  have e1 := trF_sub b.1 (oldF b.2.2.2.1 o)
  have e2 : (b.2.1.filter (fun t => decide (t.2.2.2.1 > oldF b.2.2.2.1 o))).Sublist b.2.1 := List.filter_sublist
  exact smBase.2 ⟨⟨Nat.le_trans e1.length_le hs.1.1, fun v hv => hs.1.2 v (e1.subset hv)⟩, ⟨Nat.le_trans e2.length_le hs.2.1.1, fun v hv => hs.2.1.2 v (e2.subset hv)⟩, hs.2.2⟩
theorem Played_a {b : dBase} {r : dRecord} (hb : Sm tBase b) (hs : Sm tRecord r) : An (spec_Played_k (b, r)) (fun z => z.2 = true → BOk z.1) := by
  refine An.fn (An.bind (BaseOk_a hb) fun y1 g1 => An.nt (fun _ => An.bind (l09Copy_a hb) fun _ _ => An.ret nofun) fun h1 => An.bind (RecordOk_a hs) fun y3 g3 => An.nt (fun _ => An.bind (l09Copy_a hb) fun _ _ => An.ret nofun) fun h3 => ?_)
  obtain ⟨k1, k2, k3⟩ := g3 h3
  exact An.bind (l10Play_a (g1.1 h1) hs k2 k3 k1) fun y5 g5 => An.nt (fun _ => An.bind (l09Copy_a hb) fun _ _ => An.ret nofun) fun h5 => An.bind (Tidied_a g5 (by simp)) fun y7 g7 => by
    subst g7
    exact An.bind (BaseOk_a (sm_tdF g5 _)) fun y8 g8 => An.nt (fun _ => An.bind (l09Copy_a hb) fun _ _ => An.ret nofun) fun h8 => An.ret fun _ => g8.1 h8
theorem asc_nil {α : Type} {r : α → α → Prop} : Asc r ([] : List α) := fun i h => absurd h (by simp)
theorem BOk_new : BOk ([], [], [], 0, 1) := ⟨⟨nofun, asc_nil, by simp⟩, by simp, by simp, by simp, by simp, nofun, ⟨nofun, asc_nil⟩, ⟨nofun, asc_nil⟩, by simp [idsOf], nofun⟩
theorem BaseNew_a : An (spec_BaseNew_k ()) (fun z => z = (0, 1)) := An.fn (An.ret rfl)
end Go.VE
namespace Go.VE
set_option linter.unusedVariables false
set_option linter.unusedSimpArgs false
/-- A disk as the store keeps it. -/
def DI (d : dDisk) : Prop := d.1.length = 97 ∧ (∀ s ∈ d.1, s.size = 64) ∧ d.2.length ≤ 60 ∧ ∀ p ∈ d.2, (0 ≤ p.1 ∧ p.1 < 97) ∧ p.2.size = 64
theorem l01Long_a {n : Nat} (hn : n ≤ 1000) (c : Int) : An (spec_l01Long_k ((n : Int), c)) (fun z => z.size = n) := by
  refine An.fn (An.ite (by simp [mL_eq]; omega) (An.bind (P := fun z => z.2.length = n) (An.loop (n + 1) (fun i x => x.1 = (i : Int) ∧ i ≤ n ∧ x.2.length = n) (by omega) ⟨rfl, by omega, by simp⟩ ?_) fun z hz => An.ret (by rw [bytesOf_size, hz])))
  rintro i ⟨_, l⟩ ⟨rfl, h1, h2⟩
  dsimp only at h2
  refine An.lb (An.dec (fun h => An.ite (by dsimp only at h ⊢; omega) (An.ret ⟨by dsimp only at h; omega, wsucc (by omega), by dsimp only at h; omega, by simpa using h2⟩)) fun _ => An.ret h2)
theorem l03Zero_a : An (spec_l03Zero_k ()) (fun z => z.size = 64) := An.fn (An.bind (l01Long_a (n := 64) (by omega) 0) fun y h => An.ret h)
theorem l04Sectors_a : An (spec_l04Sectors_k ()) (fun z => z = 97) := An.fn (An.ret rfl)
theorem DiskNew_a : An (spec_DiskNew_k 97) (fun z => z.1.length = 97 ∧ ∀ s ∈ z.1, s.size = 64) := by
  refine An.fn (An.bind (l01In_a _ _ _) fun y h => An.nt (fun h1 => absurd (h.2 (by omega)) (by rw [h1]; decide)) fun _ => An.bind (P := fun z => z.2.length = 97 ∧ ∀ s ∈ z.2, s.size = 64) (An.loop 98 (fun i x => x.1 = (i : Int) ∧ i ≤ 97 ∧ x.2.length = i ∧ ∀ s ∈ x.2, s.size = 64) (by omega) ⟨rfl, by omega, rfl, nofun⟩ ?_) fun z hz => An.ret hz)
  rintro i ⟨_, l⟩ ⟨rfl, h1, h2, h3⟩
  dsimp only at h2 h3
  refine An.lb (An.dec (fun h => An.bind l03Zero_a fun y3 g => An.ite (by simp [maxLen_eq]; omega) (An.ret ⟨by omega, wsucc (by omega), by dsimp only at h; omega, by simp [h2], fun s hs => ?_⟩)) fun h => An.ret ⟨by dsimp only at h ⊢; omega, h3⟩)
  rcases List.mem_append.1 hs with hs | hs
  · exact h3 s hs
  · rw [List.mem_singleton.1 hs]; exact g
theorem LogNew_a : An (spec_LogNew_k ()) (fun z => z.length = 97 ∧ ∀ s ∈ z, s.size = 64) := An.fn (An.bind l04Sectors_a fun y h => by subst h; exact An.bind DiskNew_a fun y2 g => An.ret g)
theorem StoreNew_a : An (spec_StoreNew_k ()) (fun z => z.1 = 0 ∧ z.2.1 = 1 ∧ DI (z.2.2, [])) :=
  An.fn (An.bind (P := fun z => z = (0, 1)) (An.fn (An.bind BaseNew_a fun y h => An.ret (by rw [h]))) fun y1 h1 => An.bind LogNew_a fun y2 h2 => An.ret (by subst h1; exact ⟨rfl, rfl, h2.1, h2.2, by simp, nofun⟩))
theorem ReadSector_a {d : dDisk} (h : DI d) (i : Int) : An (spec_ReadSector_k (d, i)) (fun z => z.1.size ≤ 64 ∧ (z.2 = true → z.1.size = 64)) := by
  have hl := h.2.2.1
  have hl1 := h.1
  refine An.fn (An.bind (l01In_a _ _ _) fun y g => An.nt (fun _ => An.ret ⟨by show (0 : Nat) ≤ _; omega, nofun⟩) fun h1 => ?_)
  have hi := g.1 h1
  dsimp only at hi
  rw [h.1, W_eq (by omega) (by omega)] at hi
  refine An.bind2 (P := fun z => z.1.size = 64) (P' := fun _ => True) (An.loop 61 (fun j x => x.2 = (d.2.length : Int) - 1 - (j : Int) ∧ j ≤ d.2.length) (by omega) ⟨by dsimp only; rw [W_eq (by omega) (by omega)]; omega, by omega⟩ ?_) (fun z hz => An.ret ⟨by dsimp only; omega, fun _ => hz⟩) fun _ _ => An.ite (by dsimp only; omega) (An.ret ?_)
  · rintro j ⟨s, k⟩ ⟨h2, h3⟩
    refine An.lb ?_
    dsimp only at h2 ⊢
    refine An.dec (fun h4 => An.ite (by omega) (An.beq (fun _ => An.ite (by omega) (An.ret ?_)) fun _ => An.ret ⟨by omega, by rw [W_eq (by omega) (by omega)]; dsimp only; omega, by omega⟩)) fun _ => An.ret trivial
    exact (h.2.2.2 _ (rd_mem _ _ (by omega))).2
  · have := h.2.1 _ (rd_mem zStr d.1 (i := i) (by omega))
    exact ⟨by dsimp only; omega, fun _ => this⟩
theorem l03Copy_a {d : dDisk} (h : DI d) : An (spec_l03Copy_k d) (fun z => z = d) :=
  An.fn (An.bind (P := fun z => z = d) (An.lb (An.ite (by have := h.1; simp [maxLen_eq]; omega) (An.ite (by have := h.2.2.1; simp [maxLen_eq]; omega) (An.ret rfl)))) fun z hz => An.ret hz)
theorem DiskOk_a {d : dDisk} (h : DI d) : An (spec_DiskOk_k d) (fun _ => True) := by
  have h1 := h.1
  have h2 := h.2.2.1
  refine An.fn (An.bind (l01In_a _ _ _) fun y g => An.nt (fun _ => An.ret trivial) fun _ => An.dec (fun _ => An.ret trivial) fun _ => An.bind2 (P := fun _ => True) (P' := fun _ => True) (An.go (n := d.1.length) (by omega) (fun i hi => ?_) ?_) (fun _ _ => An.ret trivial) fun _ _ => An.bind2 (P := fun _ => True) (P' := fun _ => True) (An.go (n := d.2.length) (by omega) (fun i hi => ?_) ?_) (fun _ _ => An.ret trivial) fun _ _ => An.ret trivial)
  · exact An.lb (An.dec (fun _ => An.ite (by omega) (An.bne (fun _ => An.ret trivial) fun _ => An.ret rfl)) fun h => absurd (by omega) h)
  · exact An.lb (An.dec (fun h => absurd h (by omega)) fun _ => An.ret trivial)
  · exact An.lb (An.dec (fun _ => An.ite (by omega) (An.bind (l01In_a _ _ _) fun y6 _ => An.nt (fun _ => An.ret trivial) fun _ => An.ite (by omega) (An.bne (fun _ => An.ret trivial) fun _ => An.ret rfl))) fun h => absurd (by omega) h)
  · exact An.lb (An.dec (fun h => absurd h (by omega)) fun _ => An.ret trivial)
theorem WriteSector_a {d : dDisk} (h : DI d) (i : Int) (s : ByteArray) : An (spec_WriteSector_k (d, i, s)) (fun z => DI z.1) := by
  have h2 := h.2.2.1
  refine An.fn (An.bind (l03Copy_a h) fun y1 e => ?_)
  subst e
  refine An.bind (DiskOk_a h) fun y2 _ => An.nt (fun _ => An.ret h) fun _ => An.bind (l01In_a _ _ _) fun y3 g3 => An.nt (fun _ => An.ret h) fun h3 => An.bne (fun _ => An.ret h) fun h4 => An.dec (fun _ => An.ret h) fun h5 => An.ite (by simp [maxLen_eq]; omega) (An.ret ⟨h.1, h.2.1, by dsimp only at h5; simp; omega, fun p hp => ?_⟩)
  have hi := g3.1 h3
  dsimp only at hi h4
  rw [h.1, W_eq (by omega) (by omega)] at hi
  rcases List.mem_append.1 hp with hp | hp
  · exact h.2.2.2 p hp
  · rw [List.mem_singleton.1 hp]; exact ⟨by dsimp only; omega, by dsimp only; omega⟩
theorem FlushDisk_a {d : dDisk} (h : DI d) : An (spec_FlushDisk_k d) DI := by
  have h2 := h.2.2.1
  refine An.fn (An.bind (l03Copy_a h) fun y1 e => ?_)
  subst e
  refine An.bind (DiskOk_a h) fun y2 _ => An.nt (fun _ => An.ret h) fun _ => An.bind (P := fun z => z.2.length = 97 ∧ ∀ s ∈ z.2, s.size = 64) (An.loop 61 (fun i x => x.1 = (i : Int) ∧ i ≤ y1.2.length ∧ x.2.length = 97 ∧ ∀ s ∈ x.2, s.size = 64) (by omega) ⟨rfl, by omega, h.1, h.2.1⟩ ?_) fun z hz => An.ret ⟨hz.1, hz.2, by simp, nofun⟩
  rintro i ⟨_, l⟩ ⟨rfl, h3, h4, h5⟩
  dsimp only at h4 h5
  refine An.lb (An.dec (fun hi => An.ite (by dsimp only at hi ⊢; omega) (An.ite (by dsimp only at hi ⊢; omega) ?_)) fun _ => An.ret ⟨h4, h5⟩)
  dsimp only at hi ⊢
  have hp := h.2.2.2 _ (rd_mem zPut y1.2 (i := (i : Int)) (by omega))
  refine An.ite (by omega) (An.ret ⟨by omega, wsucc (by omega), by omega, by simpa using h4, fun s hs => ?_⟩)
  rcases List.mem_or_eq_of_mem_set hs with hs | rfl
  · exact h5 s hs
  · exact hp.2
theorem l04Byte_a {d : dDisk} (h : DI d) (i : Int) : An (spec_l04Byte_k (d, i)) (fun z => 0 ≤ z ∧ z ≤ 255) := by
  refine An.fn (An.bind (ReadSector_a h i) fun y g => An.nt (fun _ => An.ret (by omega)) fun h1 => An.bif (fun _ => An.ret (by omega)) fun _ => An.ite (by have := g.2 h1; omega) (An.ret ?_))
  have := bt_b y.1 0
  rw [W_eq (by omega) (by omega)]
  exact this
theorem ActiveOf_a {d : dDisk} (h : DI d) : An (spec_ActiveOf_k d) (fun _ => True) := An.fn (An.bind (l04Byte_a h 0) fun _ _ => An.ret trivial)
theorem AreaFirst_a (i : Int) : An (spec_AreaFirst_k i) (fun _ => True) := An.fn (An.bind (l01In_a _ _ _) fun _ _ => An.nt (fun _ => An.ret trivial) fun _ => An.ret trivial)
theorem CountIn_a {d : dDisk} (h : DI d) (i : Int) : An (spec_CountIn_k (d, i)) (fun z => 0 ≤ z ∧ z ≤ 255) :=
  An.fn (An.bind (l01In_a _ _ _) fun _ _ => An.nt (fun _ => An.ret (by omega)) fun _ => An.bind (AreaFirst_a _) fun _ _ => An.bind (l04Byte_a h _) fun z hz => An.ret hz)
theorem SectorText_a {d : dDisk} (h : DI d) (f n : Int) : An (spec_SectorText_k (d, f, n)) (fun z => z.1.size ≤ 6400) := by
  have z0 : (⟨#[]⟩ : ByteArray).size ≤ 6400 := by show (0 : Nat) ≤ _; omega
  refine An.fn (An.bind (l01In_a _ _ _) fun y g => An.nt (fun _ => An.ret z0) fun h1 => ?_)
  have hn := g.1 h1
  dsimp only at hn
  refine An.bind2 (P := fun z => z.1.size ≤ 6400) (P' := fun z => z.2.1.size ≤ 6400) (An.loop 101 (fun j x => x.1 = ⟨#[]⟩ ∧ x.2.2 = (j : Int) ∧ (j : Int) ≤ n ∧ x.2.1.size ≤ 64 * j) (by omega) ⟨rfl, rfl, by omega, by show (0 : Nat) ≤ _; omega⟩ ?_) (fun z hz => An.ret hz) fun z hz => An.ret hz
  rintro j ⟨_, s, _⟩ ⟨rfl, rfl, h2, h3⟩
  refine An.lb ?_
  dsimp only at h3 ⊢
  refine An.dec (fun h4 => An.dec (fun _ => An.ret z0) fun _ => An.dec (fun _ => An.ret z0) fun _ => An.bind (ReadSector_a h _) fun y4 g4 => An.nt (fun _ => An.ret z0) fun _ => An.ite (by omega) (An.ret ⟨by omega, rfl, wsucc (by omega), by omega, by rw [ByteArray.size_append]; omega⟩)) fun h4 => An.ret (by show s.size ≤ 6400; omega)
theorem ReadArea_a {d : dDisk} (h : DI d) (i : Int) : An (spec_ReadArea_k (d, i)) (fun z => z.2.2.length ≤ 256 ∧ ∀ s ∈ z.2.2, s.size ≤ 20000) := by
  refine An.fn (An.bind (l01In_a _ _ _) fun _ _ => An.nt (fun _ => An.ret ⟨by simp, nofun⟩) fun _ => An.bind (AreaFirst_a _) fun _ _ => An.bind (SectorText_a h _ _) fun y3 g3 => An.nt (fun _ => An.ret ⟨by simp, nofun⟩) fun _ => An.bind2 (P := fun z => z.2.2.1 = []) (P' := fun z => z.2.2.2.2.length ≤ 256 ∧ ∀ s ∈ z.2.2.2.2, s.size ≤ 20000) (An.loop 257 (fun j x => x.2.1 = (j : Int) ∧ j ≤ 255 ∧ x.2.2.2.1 = [] ∧ x.2.2.2.2.length ≤ j ∧ ∀ s ∈ x.2.2.2.2, s.size ≤ 20000) (by omega) ⟨rfl, by omega, rfl, by simp, nofun⟩ ?_) (fun z hz => An.ret ⟨by simp [hz], by simp [hz]⟩) fun z hz => An.ret hz)
  rintro j ⟨a, _, l1, _, l⟩ ⟨rfl, h1, rfl, h3, h4⟩
  refine An.lb ?_
  dsimp only at h3 h4 ⊢
  refine An.bind (CountIn_a h _) fun y6 g6 => An.dec (fun h5 => An.bind (ReadShort_a (by omega) _) fun y7 g7 => An.nt (fun _ => An.ret rfl) fun _ => An.bif (fun _ => An.ret rfl) fun _ => An.ite (by simp [maxLen_eq]; omega) (An.ret ⟨by omega, wsucc (by omega), by omega, rfl, by simp; omega, fun s hs => ?_⟩)) fun _ => An.ret ⟨by show l.length ≤ 256; omega, h4⟩
  rcases List.mem_append.1 hs with hs | hs
  · exact h4 s hs
  · rw [List.mem_singleton.1 hs]; exact g7.1
theorem LogOk_a {d : dDisk} (h : DI d) : An (spec_LogOk_k d) (fun _ => True) :=
  An.fn (An.bind (DiskOk_a h) fun _ _ => An.nt (fun _ => An.ret trivial) fun _ => An.bind l04Sectors_a fun _ _ => An.bne (fun _ => An.ret trivial) fun _ => An.dec (fun _ => An.ret trivial) fun _ => An.bind (ReadArea_a h 0) fun _ _ => An.bind (ReadArea_a h 1) fun _ _ => An.bif (fun _ => An.ret trivial) fun _ => An.ret trivial)
theorem LogTexts_a {d : dDisk} (h : DI d) : An (spec_LogTexts_k d) (fun z => z.length ≤ 256 ∧ ∀ s ∈ z, s.size ≤ 20000) :=
  An.fn (An.bind (ActiveOf_a h) fun _ _ => An.bind (ReadArea_a h _) fun y g => An.ret g)
end Go.VE
namespace Go.VE
set_option linter.unusedVariables false
set_option linter.unusedSimpArgs false
theorem An.d3 {d e : dDisk} {b : Bool} (h : DI d) : An (fun k => spec_l03Copy_k d (fun y => k (y, b))) (fun z : dDisk × Bool => DI z.1) := An.bind (l03Copy_a h) fun y g => An.ret (by rw [g]; exact h)
theorem WriteBytes_a {d : dDisk} (h : DI d) (f o : Int) {s : ByteArray} (hs : s.size ≤ 1000000) : An (spec_WriteBytes_k (d, f, o, s)) (fun z => DI z.1) := by
  refine An.fn (An.bind (l03Copy_a h) fun y1 e => ?_)
  subst e
  refine An.bind (l01In_a _ _ _) fun y2 g2 => An.nt (fun _ => An.ret h) fun h2 => An.bind (l01In_a _ _ _) fun y3 g3 => An.nt (fun _ => An.ret h) fun h3 => An.bind (DiskOk_a h) fun y4 _ => An.nt (fun _ => An.ret h) fun _ => ?_
  have ho := g2.1 h2
  dsimp only at ho
  refine An.bind2 (P := fun z => DI z.2.2) (P' := fun z => DI z.2.1) (An.loop (s.size + 1) (fun j x => DI x.2.2 ∧ (j : Int) ≤ x.1 ∧ x.1 ≤ (s.size : Int)) (by omega) ⟨h, by simp, by show (0 : Int) ≤ _; omega⟩ ?_) (fun z hz => An.ret hz) fun z hz => An.ret hz
  rintro j ⟨p, fl, c⟩ ⟨k1, k2, k3⟩
  refine An.lb ?_
  dsimp only at k1 k2 k3 ⊢
  refine An.dec (fun k4 => ?_) fun _ => An.ret k1
  rw [W_eq (x := o + p) (by omega) (by omega), W_eq (x := (s.size : Int) - p) (by omega) (by omega)]
  have m1 : 0 ≤ (o + p).tmod 64 := Int.tmod_nonneg _ (by omega)
  have m2 : (o + p).tmod 64 < 64 := Int.tmod_lt_of_pos _ (by omega)
  generalize (o + p).tmod 64 = a at m1 m2
  rw [W_eq (x := 64 - a) (by omega) (by omega)]
  have J : ∀ n : Int, 1 ≤ n → n ≤ 64 - a → n ≤ (s.size : Int) - p → An (spec_WriteBytes_j5000011.f (f, o, s, W (f + W ((o + p).tdiv 64)), a, n, y1) (p, fl, c)) (Sum.elim (fun z => DI z.2.1) fun z => j < s.size + 1 ∧ DI z.2.2 ∧ ((j + 1 : Nat) : Int) ≤ z.1 ∧ z.1 ≤ (s.size : Int)) := fun n n1 n2 n3 => by
    have F : An (fun k => spec_l03Copy_k y1 (fun y => k (.inl (p, y, c)))) (Sum.elim (fun z : Int × dDisk × dDisk => DI z.2.1) fun z : Int × dDisk × dDisk => j < s.size + 1 ∧ DI z.2.2 ∧ ((j + 1 : Nat) : Int) ≤ z.1 ∧ z.1 ≤ (s.size : Int)) := An.bind (l03Copy_a h) fun y g => An.ret (by rw [g]; exact h)
    refine An.lb ?_
    dsimp only
    rw [W_eq (x := p + n) (by omega) (by omega), W_eq (x := a + n) (by omega) (by omega)]
    refine An.bind (ReadSector_a k1 _) fun y11 g11 => An.nt (fun _ => F) fun h11 => An.bne (fun _ => F) fun h12 => ?_
    have e1 : ∀ i k : Nat, (y11.1.extract i k).size ≤ 64 := fun i k => by rw [ByteArray.size_extract]; omega
    have e2 : (s.extract p.toNat (p + n).toNat).size ≤ 64 := by rw [ByteArray.size_extract]; omega
    have e3 := e1 (Int.toNat 0) a.toNat
    have e4 := e1 (a + n).toNat ((y11.1.size : Int)).toNat
    refine An.ite (by omega) (An.ite (by omega) (An.ite (by omega) (An.ite (by omega) (An.ite (by rw [ByteArray.size_append]; omega) (An.bind (WriteSector_a k1 _ _) fun y14 g14 => An.nt (fun _ => F) fun _ => An.ret ⟨by omega, g14, by dsimp only; omega, by dsimp only; omega⟩)))))
  refine An.dec (fun k5 => An.bind2 (J _ (by omega) (by omega) (by omega)) (fun z hz => An.ret hz) fun z hz => An.ret hz) fun k5 => An.bind2 (J _ (by omega) (by omega) (by omega)) (fun z hz => An.ret hz) fun z hz => An.ret hz
theorem l04One_a (n : Int) : An (spec_l04One_k n) (fun z => z.size = 1) := An.fn (An.ret (bytesOf_size _))
theorem l04Begin_a {d : dDisk} (h : DI d) (i : Int) {s : ByteArray} (hs : s.size ≤ 100000) : An (spec_l04Begin_k (d, i, s)) (fun z => DI z.1) :=
  An.fn (An.bind (ReadArea_a h i) fun y1 g1 => An.nt (fun _ => An.d3 h (e := d)) fun _ => An.bif (fun _ => An.d3 h (e := d)) fun _ => An.dec (fun _ => An.d3 h (e := d)) fun _ => An.bind (CountIn_a h i) fun y5 _ => An.dec (fun _ => An.d3 h (e := d)) fun _ => An.bind (l01Var_a (by dsimp only; omega)) fun y7 g7 => An.ite (by dsimp only; omega) (An.dec (fun _ => An.d3 h (e := d)) fun _ => An.bind (AreaFirst_a _) fun y9 _ => An.bind (WriteBytes_a h _ _ (by rw [ByteArray.size_append]; dsimp only; omega)) fun y10 g10 => An.ret g10))
theorem l04Count_a {d : dDisk} (h : DI d) (i n : Int) : An (spec_l04Count_k (d, i, n)) (fun z => DI z.1) :=
  An.fn (An.bind (AreaFirst_a _) fun _ _ => An.bind (l04One_a _) fun y g => An.bind (WriteBytes_a h _ _ (by omega)) fun y3 g3 => An.ret g3)
theorem l04Put_a {d : dDisk} (h : DI d) (i : Int) {s : ByteArray} (hs : s.size ≤ 100000) : An (spec_l04Put_k (d, i, s)) (fun z => DI z.1) :=
  An.fn (An.bind (l04Begin_a h i hs) fun y1 g1 => An.nt (fun _ => An.ret g1) fun _ => An.bind (FlushDisk_a g1) fun y2 g2 => An.bind (CountIn_a h i) fun _ _ => An.bind (l04Count_a g2 _ _) fun y4 g4 => An.bind (FlushDisk_a g4) fun y5 g5 => An.ret g5)
theorem PutRecord_a {d : dDisk} (h : DI d) (i : Int) {s : ByteArray} (hs : s.size ≤ 100000) : An (spec_PutRecord_k (d, i, s)) (fun z => DI z.1) :=
  An.fn (An.bind (LogOk_a h) fun _ _ => An.nt (fun _ => An.d3 h (e := d)) fun _ => An.bind (l01In_a _ _ _) fun _ _ => An.nt (fun _ => An.d3 h (e := d)) fun _ => An.bind (l04Put_a h i hs) fun y5 g5 => An.nt (fun _ => An.d3 h (e := d)) fun _ => An.ret g5)
theorem AppendLog_a {d : dDisk} (h : DI d) {s : ByteArray} (hs : s.size ≤ 100000) : An (spec_AppendLog_k (d, s)) (fun z => DI z.1) :=
  An.fn (An.bind (ActiveOf_a h) fun _ _ => An.bind (PutRecord_a h _ hs) fun y g => An.ret g)
theorem l04Fill_a {d : dDisk} (h : DI d) {l : List ByteArray} (hl : l.length ≤ 1000) (hs : ∀ s ∈ l, s.size ≤ 100000) : An (spec_l04Fill_k (d, l)) (fun z => DI z.1) := by
  refine An.fn (An.bind (ActiveOf_a h) fun _ _ => An.bind (l04Count_a h _ _) fun y2 g2 => An.bind (FlushDisk_a g2) fun y3 g3 => An.bind (P := fun z => DI z.2.2) (An.loop 1001 (fun i x => x.2.1 = (i : Int) ∧ i ≤ l.length ∧ DI x.2.2) (by omega) ⟨rfl, by omega, g3⟩ ?_) fun z hz => An.ret hz)
  rintro i ⟨b, _, c⟩ ⟨rfl, h1, h2⟩
  refine An.lb ?_
  dsimp only at h2 ⊢
  exact An.dec (fun h3 => An.bif (fun _ => An.ite (by omega) (An.bind (l04Put_a h2 _ (hs _ (rd_mem _ _ (by omega)))) fun y5 g5 => An.ret ⟨by omega, wsucc (by omega), by omega, g5⟩)) fun _ => An.ret h2) fun _ => An.ret h2
theorem l04Turn_a {d : dDisk} (h : DI d) : An (spec_l04Turn_k d) (fun z => DI z.1) :=
  An.fn (An.bind (l04Byte_a h 0) fun _ _ => An.bind (l04One_a _) fun y g => An.bind (WriteBytes_a h _ _ (by omega)) fun y3 g3 => An.ret g3)
theorem SwitchLog_a {d : dDisk} (h : DI d) {l : List ByteArray} (hl : l.length ≤ 1000) (hs : ∀ s ∈ l, s.size ≤ 100000) : An (spec_SwitchLog_k (d, l)) (fun z => DI z.1) :=
  An.fn (An.bind (LogOk_a h) fun _ _ => An.nt (fun _ => An.d3 h (e := d)) fun _ => An.bind (l04Fill_a h hl hs) fun y3 g3 => An.nt (fun _ => An.d3 h (e := d)) fun _ => An.bind (l04Turn_a g3) fun y5 g5 => An.nt (fun _ => An.d3 h (e := d)) fun _ => An.bind (FlushDisk_a g5) fun y7 g7 => An.ret g7)
theorem sm_b0 : Sm tBase ([], [], [], 0, 0) := smBase.2 ⟨⟨by simp, nofun⟩, ⟨by simp, nofun⟩, ⟨by simp, nofun⟩⟩
theorem PlayLog_a {d : dDisk} (h : DI d) : An (spec_PlayLog_k d) (fun z => Sm tBase z.1) := by
  refine An.fn (An.bind BaseNew_a fun y1 h1 => An.bind (LogTexts_a h) fun y2 g2 => ?_)
  subst h1
  refine An.bind2 (P := fun z => z.2.1 = (0, 0)) (P' := fun z => Sm tBase z.2.2) (An.loop 257 (fun i x => x.1 = (i : Int) ∧ i ≤ y2.length ∧ x.2.1 = (0, 0) ∧ Sm tBase x.2.2) (by omega) ⟨rfl, by omega, rfl, sm_base BOk_new⟩ ?_) (fun z hz => An.ret (by rw [hz]; exact sm_b0)) fun z hz => An.ret hz
  rintro i ⟨_, _, b⟩ ⟨rfl, h1, rfl, h2⟩
  refine An.lb ?_
  dsimp only at h2 ⊢
  exact An.dec (fun h3 => An.ite (by omega) (An.bind (ReadRecord_a (by have := g2.2 _ (rd_mem zStr y2 (i := (i : Int)) (by omega)); omega)) fun y5 g5 => An.bind (Played_a h2 g5) fun y6 g6 => An.nt (fun _ => An.ret rfl) fun _ => An.nt (fun _ => An.ret rfl) fun h6 => An.ret ⟨by omega, wsucc (by omega), by omega, rfl, sm_base (g6 h6)⟩)) fun _ => An.ret h2
theorem l12Fixed_a {d : dDisk} (h : DI d) : An (spec_l12Fixed_k d) (fun z => DI z.1) :=
  An.fn (An.bind (PlayLog_a h) fun y1 g1 => An.bind (RecordText_a (smRecord.2 ⟨sm_no, by show (0 : Nat) ≤ _; omega, g1⟩)) fun y2 g2 => An.nt (fun _ => An.d3 h (e := d)) fun _ => An.nt (fun _ => An.d3 h (e := d)) fun _ => An.bind (SwitchLog_a h (by simp) (fun s hs => by rw [List.mem_singleton.1 hs]; have := g2.1; omega)) fun y5 g5 => An.ret g5)
/-- A store as the draws make it. -/
def SI (s : dStore) : Prop := EI s.1 ∧ DI s.2
theorem l12Copy_a {s : dStore} (h : SI s) : An (spec_l12Copy_k s) (fun z => z = s) :=
  An.fn (An.bind (l11Copy_a (sm_engine h.1)) fun y1 g1 => An.bind (l03Copy_a h.2) fun y2 g2 => An.ret (by subst g1; subst g2; rfl))
theorem FixStore_a {s : dStore} (h : SI s) : An (spec_FixStore_k s) (fun z => SI z.1) :=
  An.fn (An.bind (l12Copy_a h) fun y1 g1 => An.bind (l12Fixed_a h.2) fun y2 g2 => An.bif (fun _ => An.ret ⟨by rw [g1]; exact h.1, g2⟩) fun _ => An.ret (by rw [g1]; exact h))
theorem l12Keep_a {r : dRecord} (hr : Sm tRecord r) {s : dStore} (h : SI s) : An (spec_l12Keep_8fe4_k (r, s)) (fun z => SI z.2) :=
  An.fn (An.bind (RecordText_a hr) fun y1 g1 => An.nt (fun _ => An.ret h) fun _ => An.bind (AppendLog_a h.2 (by have := g1.1; omega)) fun y2 g2 => An.nt (fun _ => An.bind (l12Fixed_a h.2) fun y3 g3 => An.nt (fun _ => An.ret h) fun _ => An.bind (AppendLog_a g3 (by have := g1.1; omega)) fun y4 g4 => An.bif (fun _ => An.ret ⟨h.1, g4⟩) fun _ => An.ret h) fun _ => An.bif (fun _ => An.ret ⟨h.1, g2⟩) fun _ => An.ret h)
theorem EI.out {e : dEngine} (h : EI e) (id : Int) {c : dDisk} (hc : DI c) : An (fun k => spec_l11Copy_k e (fun y3 => spec_l11Out_k (id, (y3.1, y3.2.1), y3.2.2.1, y3.2.2.2.1, y3.2.2.2.2.1, y3.2.2.2.2.2) (fun y4 => k ((3 : Int), (y4.1, c))))) (fun z => SI z.2) :=
  An.bind (l11Copy_a (sm_engine h)) fun y3 g3 => by
    subst g3
    exact An.bind (l11Out_a (sm_base h.1) (by have := h.2.2.1; dsimp only [pE]; omega) id) fun y4 g4 => An.ret ⟨by rw [g4]; exact h.lv id, hc⟩
theorem l12Commit_a {s : dStore} (h : SI s) (id : Int) : An (spec_l12Commit_09c6_k (id, s)) (fun z => SI z.2) :=
  An.fn (An.bind (Commit_a h.1 id) fun y1 g1 => An.beq (fun _ => An.bind (l12Keep_a (r := recC y1) g1.2 h) fun y2 g2 => An.nt (fun _ => g2.1.out id g2.2) fun _ => An.ret ⟨g1.1, g2.2⟩) fun _ => An.ret ⟨g1.1, h.2⟩)
theorem l12Prepare_a {s : dStore} (h : SI s) (id : Int) {name : ByteArray} (hn : name ∈ [(⟨#[112]⟩ : ByteArray), ⟨#[113]⟩, ⟨#[114]⟩]) : An (spec_l12Prepare_55a9_k (id, name, s)) (fun z => SI z.2) :=
  An.fn (An.bind (Prepare_a h.1 id hn) fun y1 g1 => An.beq (fun _ => An.bind (l12Keep_a (r := recC y1) g1.2 h) fun y2 g2 => An.nt (fun _ => g2.1.out id g2.2) fun _ => An.ret ⟨g1.1, g2.2⟩) fun _ => An.ret ⟨g1.1, h.2⟩)
theorem l12Finish_a {s : dStore} (h : SI s) {name : ByteArray} (hn : name.size ≤ 3) (yes : Bool) : An (spec_l12Finish_e5f1_k (name, yes, s)) (fun z => SI z.2) :=
  An.fn (An.bind (Finish_a h.1 hn yes) fun y1 g1 => An.beq (fun _ => An.bind (l12Keep_a (r := recF y1) g1.2 h) fun y2 g2 => An.nt (fun _ => An.ret g2) fun _ => An.ret ⟨g1.1, g2.2⟩) fun _ => An.ret ⟨g1.1, h.2⟩)
end Go.VE
namespace Go.VE
set_option linter.unusedVariables false
set_option linter.unusedSimpArgs false
abbrev tG : Type := List Int × (Int × Int)
/-- What draws are taken from. -/
def GI (g : tG) : Prop := g.1.length ≤ 1048576 ∧ 0 ≤ g.2.1
theorem big_a (x : List Int) : An (laws_big_k x) (fun z => z = false → x.length ≤ 1048576) := An.fn (An.ret fun h => by have := of_decide_eq_false h; omega)
theorem l01New_a {x : List Int} (hx : x.length ≤ 1048576) : An (spec_l01New_k x) GI := by
  refine An.fn (An.bind (P := fun _ => True) (An.loop (x.length + 1) (fun i y => y.2 = (i : Int) ∧ i ≤ x.length) (by omega) ⟨rfl, by omega⟩ ?_) fun z _ => An.ret ⟨hx, by show (0 : Int) ≤ 0; omega⟩)
  rintro i ⟨c, _⟩ ⟨rfl, h1⟩
  refine An.lb ?_
  dsimp only
  exact An.dec (fun h => An.dec (fun _ => An.ite (by omega) (An.ret ⟨by omega, wsucc (by omega), by omega⟩)) fun _ => An.ret trivial) fun _ => An.ret trivial
theorem W_and (a : BitVec 64) : 0 ≤ W ((a &&& BitVec.ofInt 64 255).toNat : Int) ∧ W ((a &&& BitVec.ofInt 64 255).toNat : Int) ≤ 255 := by
  have h : (a &&& BitVec.ofInt 64 255).toNat ≤ 255 := by
    rw [BitVec.toNat_and]
    exact Nat.and_le_right
  rw [W_eq (by omega) (by omega)]
  omega
theorem l01Byte_a {g : tG} (h : GI g) : An (spec_l01Byte_k g) (fun z => (0 ≤ z.1 ∧ z.1 ≤ 255) ∧ GI z.2) := by
  have h1 := h.1
  refine An.fn (An.dec (fun h2 => An.ite ⟨h.2, h2⟩ (An.ret ⟨W_and _, h.1, ?_⟩)) fun _ => An.ret ⟨W_and _, h.1, h.2⟩)
  have h3 := h.2
  dsimp only
  rw [W_eq (by omega) (by omega)]; omega
theorem l01Below_a {g : tG} (h : GI g) {n : Int} (hn : 1 ≤ n ∧ n ≤ 256) : An (spec_l01Below_k (n, g)) (fun z => (0 ≤ z.1 ∧ z.1 < n) ∧ GI z.2) := by
  refine An.fn (An.dec (fun h1 => absurd h1 (by dsimp only; omega)) fun _ => An.dec (fun _ => An.bind (l01Byte_a h) fun y g => An.itn (by dsimp only; omega) (An.ret ⟨⟨Int.tmod_nonneg _ g.1.1, Int.tmod_lt_of_pos _ (by dsimp only; omega)⟩, g.2⟩)) fun h1 => absurd hn.2 h1)
theorem l01Below_g {g : tG} (h : GI g) (n : Int) : An (spec_l01Below_k (n, g)) (fun z => GI z.2) := by
  refine An.fn (An.dec (fun h1 => An.ret h) fun h0 => An.dec (fun _ => An.bind (l01Byte_a h) fun y g => An.itn (by dsimp only at h0 ⊢; omega) (An.ret g.2)) fun h1 => An.bind (l01Byte_a h) fun y2 g2 => An.bind (l01Byte_a g2.2) fun y3 g3 => An.bind (l01Byte_a g3.2) fun y4 g4 => An.bind (l01Byte_a g4.2) fun y5 g5 => An.itn (by dsimp only at h0 ⊢; omega) (An.ret g5.2))
theorem l01Once_a {g : tG} (h : GI g) (n : Int) : An (spec_l01Once_k (n, g)) (fun z => GI z.2) := An.fn (An.bind (l01Below_g h n) fun y g => An.ret g)
theorem l01Pick_a {g : tG} (h : GI g) {l : List ByteArray} (hl : 1 ≤ l.length ∧ l.length ≤ 256) : An (spec_l01Pick_k (l, g)) (fun z => z.1 ∈ l ∧ GI z.2) :=
  An.fn (An.bind (l01Below_a h (by dsimp only; omega)) fun y g => An.ite g.1 (An.ret ⟨rd_mem _ _ g.1, g.2⟩))
theorem l05Key_a {g : tG} (h : GI g) : An (spec_l05Key_k g) (fun z => KOk z.1 ∧ GI z.2) :=
  An.fn (An.bind (l01Pick_a h (by simp)) fun y g => An.ret ⟨by
    have := g.1
    simp only [List.mem_cons, List.not_mem_nil, or_false] at this
    unfold KOk
    rcases this with h | h | h | h | h <;> rw [h] <;> decide, g.2⟩)
theorem l05Range_a {g : tG} (h : GI g) : An (spec_l05Range_k g) (fun z => Sm tRange z.1 ∧ GI z.2) := by
  refine An.fn (An.bind (l05Key_a h) fun y1 g1 => An.bind (l01Once_a g1.2 _) fun y2 g2 => ?_)
  have a := g1.1.le
  refine An.bif (fun _ => An.ret ⟨smRange.2 ⟨by dsimp only; omega, by dsimp only; omega⟩, g2⟩) fun _ => An.bind (l05Key_a g2) fun y3 g3 => ?_
  have b := g3.1.le
  exact An.bif (fun _ => An.ret ⟨smRange.2 ⟨by dsimp only; omega, by dsimp only; omega⟩, g3.2⟩) fun _ => An.ret ⟨smRange.2 ⟨by dsimp only; omega, by dsimp only; omega⟩, g3.2⟩
theorem l05Ranges_a {g : tG} (h : GI g) : An (spec_l05Ranges_k g) (fun z => GI z.1 ∧ z.2.length ≤ 10 ∧ ∀ r ∈ z.2, Sm tRange r) := by
  refine An.fn (An.bind (P := fun z => GI z.2.1 ∧ z.2.2.length ≤ 10 ∧ ∀ r ∈ z.2.2, Sm tRange r) (An.loop 5 (fun i x => x.1 = (i : Int) ∧ i ≤ 4 ∧ GI x.2.1 ∧ x.2.2.length = i ∧ ∀ r ∈ x.2.2, Sm tRange r) (by omega) ⟨rfl, by omega, h, rfl, nofun⟩ ?_) fun z hz => An.ret hz)
  rintro i ⟨_, c, l⟩ ⟨rfl, h1, h2, h3, h4⟩
  refine An.lb ?_
  dsimp only at h2 h3 h4 ⊢
  refine An.bind (l01Below_a h2 (by omega)) fun y2 g2 => An.dec (fun h5 => An.bind (l05Range_a g2.2) fun y3 g3 => An.ite (by simp [maxLen_eq]; omega) (An.ret ⟨by omega, wsucc (by omega), by omega, g3.2, by simp [h3], fun r hr => ?_⟩)) fun _ => An.ret ⟨g2.2, by dsimp only; omega, h4⟩
  rcases List.mem_append.1 hr with hr | hr
  · exact h4 r hr
  · rw [List.mem_singleton.1 hr]; exact g3.1
theorem l05Write_a {g : tG} (h : GI g) : An (spec_l05Write_k g) (fun z => WOk z.1 ∧ GI z.2) := by
  refine An.fn (An.bind (l05Key_a h) fun y1 g1 => An.bind (l01Pick_a g1.2 (by simp)) fun y2 g2 => An.bind (l01Once_a g2.2 _) fun y3 g3 => An.bif (fun _ => An.ret ⟨⟨g1.1, by show (0 : Nat) ≤ _; omega, fun _ => rfl⟩, g3⟩) fun _ => An.ret ⟨⟨g1.1, ?_, nofun⟩, g3⟩)
  have := g2.1
  simp only [List.mem_cons, List.not_mem_nil, or_false] at this
  rcases this with h | h | h | h <;> rw [h] <;> decide
/-- Writes in the order of their keys. -/
def WI (l : List dWrite) : Prop := (∀ w ∈ l, WOk w) ∧ l.Pairwise fun a b => strLess a.1 b.1 = true
theorem insK_pw {α : Type} {key : α → ByteArray} {l : List α} {w : α} (h : l.Pairwise fun a b => strLess (key a) (key b) = true) : (insK key l w).Pairwise fun a b => strLess (key a) (key b) = true := by
  refine List.pairwise_append.2 ⟨h.sublist List.filter_sublist, List.pairwise_cons.2 ⟨fun y hy => ?_, h.sublist List.filter_sublist⟩, fun x hx y hy => ?_⟩
  · have := (List.mem_filter.1 hy).2
    simp only [Bool.not_eq_true', Bool.or_eq_false_iff] at this
    rcases strLess_tri (key y) (key w) with h1 | h1 | h1
    · rw [this.1] at h1; cases h1
    · rw [h1, strEq_refl] at this; cases this.2
    · exact h1
  · have hx' := (List.mem_filter.1 hx).2
    rcases List.mem_cons.1 hy with rfl | hy
    · exact hx'
    · have := (List.mem_filter.1 hy).2
      simp only [Bool.not_eq_true', Bool.or_eq_false_iff] at this
      rcases strLess_tri (key y) (key w) with h1 | h1 | h1
      · rw [this.1] at h1; cases h1
      · rw [h1, strEq_refl] at this; cases this.2
      · exact strLess_trans hx' h1
theorem insK_mem {α : Type} {key : α → ByteArray} {l : List α} {w y : α} (h : y ∈ insK key l w) : y = w ∨ y ∈ l := by
  rcases List.mem_append.1 h with h | h
  · exact .inr (List.mem_filter.1 h).1
  · rcases List.mem_cons.1 h with h | h
    · exact .inl h
    · exact .inr (List.mem_filter.1 h).1
theorem l05Writes_a {g : tG} (h : GI g) : An (spec_l05Writes_k g) (fun z => (WI z.1 ∧ z.1.length ≤ 4) ∧ GI z.2) := by
  refine An.fn (An.bind (P := fun z => (WI z.1 ∧ z.1.length ≤ 4) ∧ GI z.2.2) (An.loop 5 (fun i x => x.2.1 = (i : Int) ∧ i ≤ 4 ∧ GI x.2.2 ∧ x.1.length ≤ i ∧ WI x.1) (by omega) ⟨rfl, by omega, h, by simp, nofun, List.Pairwise.nil⟩ ?_) fun z hz => An.ret hz)
  rintro i ⟨l, _, c⟩ ⟨rfl, h1, h2, h3, h4⟩
  refine An.lb ?_
  dsimp only at h2 h3 h4 ⊢
  refine An.bind (l01Below_a h2 (by omega)) fun y2 g2 => An.dec (fun h5 => An.bind (l05Write_a g2.2) fun y3 g3 => An.bind (PutWrite_a (by omega) _) fun y4 g4 => An.ret ⟨by omega, wsucc (by omega), by omega, g3.2, ?_, ?_⟩) fun _ => An.ret ⟨⟨h4, by dsimp only; omega⟩, g2.2⟩
  · subst g4
    exact Nat.le_trans (insK_len _ _ _) (by omega)
  · subst g4
    refine ⟨fun w hw => ?_, insK_pw h4.2⟩
    rcases insK_mem hw with rfl | hw
    · exact g3.1
    · exact h4.1 w hw
theorem DrawWrites_a {x : List Int} (hx : x.length ≤ 1048576) : An (spec_DrawWrites_k x) (fun z => WI z ∧ z.length ≤ 4) := An.fn (An.bind (l01New_a hx) fun y1 g1 => An.bind (l05Writes_a g1) fun y2 g2 => An.ret g2.1)
theorem An.step3 {s : dStore} (hs : SI s) {g : tG} (hg : GI g) : An (spec_l12Step_2647_k (g, s)) (fun z => GI z.1 ∧ SI z.2) := by
  have h4 := hs.1.2.2.1
  refine An.fn (An.dec (fun h0 => An.bind (l01Below_a hg (by dsimp only at h0 ⊢; omega)) fun y1 g1 => An.ite g1.1 (An.bind (l01Below_g g1.2 _) fun y2 g2 => An.beq (fun _ => An.bind (Begin_a hs.1) fun y3 g3 => An.ret ⟨g2, g3, hs.2⟩) fun _ => An.dec (fun _ => An.bind (Begin_a hs.1) fun y3 g3 => An.ret ⟨g2, g3, hs.2⟩) fun _ => An.dec (fun _ => An.bind (l05Key_a g2) fun y5 g5 => An.bind (GetKey_a hs.1 _ (by have := g5.1.le; omega)) fun y6 g6 => An.ret ⟨g5.2, g6, hs.2⟩) fun _ => An.dec (fun _ => An.bind (l05Range_a g2) fun y7 g7 => An.bind (ScanKeys_a hs.1 _ g7.1) fun y8 g8 => An.ret ⟨g7.2, g8, hs.2⟩) fun _ => An.dec (fun _ => An.bind (l05Write_a g2) fun y9 g9 => An.bind (PutKey_a hs.1 _ (sm_write g9.1)) fun y10 g10 => An.ret ⟨g9.2, g10, hs.2⟩) fun _ => An.dec (fun _ => An.bind (l12Commit_a hs _) fun y11 g11 => An.ret ⟨g2, g11⟩) fun _ => An.beq (fun _ => An.bind (l01Pick_a g2 (by simp)) fun y12 g12 => An.bind (l12Prepare_a hs _ g12.1) fun y13 g13 => An.ret ⟨g12.2, g13⟩) fun _ => An.beq (fun _ => An.bind (l01Pick_a g2 (by simp)) fun y14 g14 => An.bind (l01Once_a g14.2 _) fun y15 g15 => An.bind (l12Finish_a hs ?_ _) fun y16 g16 => An.ret ⟨g15, g16⟩) fun _ => An.bind (l01Once_a g2 _) fun y17 g17 => An.bif (fun _ => An.bind (FixStore_a hs) fun y18 g18 => An.ret ⟨g17, g18⟩) fun _ => An.bind (Leave_a hs.1 _) fun y19 g19 => An.ret ⟨g17, g19, hs.2⟩)) fun _ => An.bind (l01Below_g hg _) fun y20 g20 => An.bind (Begin_a hs.1) fun y21 g21 => An.ret ⟨g20, g21, hs.2⟩)
  have := g14.1
  simp only [List.mem_cons, List.not_mem_nil, or_false] at this
  rcases this with h | h | h <;> rw [h] <;> decide
theorem l12Used_a {g : tG} (hg : GI g) : An (spec_l12Used_k (24, g)) (fun z => SI z.1 ∧ GI z.2) := by
  refine An.fn (An.bind StoreNew_a fun y1 g1 => ?_)
  have s0 : SI (((([] : List dVersion), (([] : List dTxn), (([] : List dTxn), (y1.1, y1.2.1)))), ([] : List dTxn)), (y1.2.2, ([] : List dPut))) := ⟨⟨by rw [g1.1, g1.2.1]; exact BOk_new, nofun, by simp, nofun⟩, g1.2.2⟩
  refine An.bind (P := fun z => SI z.2.2 ∧ GI z.2.1) (An.loop 30 (fun i x => x.1 = (i : Int) ∧ i ≤ 26 ∧ GI x.2.1 ∧ SI x.2.2) (by omega) ⟨rfl, by omega, hg, s0⟩ ?_) fun z hz => An.ret hz
  rintro i ⟨_, c, s⟩ ⟨rfl, h1, h2, h3⟩
  refine An.lb ?_
  dsimp only at h2 h3 ⊢
  refine An.bind (l01Below_a h2 (by omega)) fun y3 g3 => ?_
  rw [W_eq (x := 2 + y3.1) (by omega) (by omega)]
  exact An.dec (fun h5 => An.bind (An.step3 h3 g3.2) fun y4 g4 => An.ret ⟨by omega, wsucc (by omega), by omega, g4⟩) fun _ => An.ret ⟨h3, g3.2⟩
theorem l09Base_a {g : tG} (hg : GI g) : An (spec_l09Base_k g) (fun z => (BOk z.1 ∧ Nm z.1) ∧ GI z.2) := An.fn (An.bind (l12Used_a hg) fun y h => An.ret ⟨⟨h.1.1.1, h.1.1.2.1⟩, h.2⟩)
theorem DrawBase_a {x : List Int} (hx : x.length ≤ 1048576) : An (spec_DrawBase_k x) (fun z => BOk z ∧ Nm z) := An.fn (An.bind (l01New_a hx) fun y1 g1 => An.bind (l09Base_a g1) fun y2 g2 => An.ret g2.1)
end Go.VE
namespace Go.VE
set_option linter.unusedVariables false
set_option linter.unusedSimpArgs false
theorem l06Versions_a {g : tG} (h : GI g) : An (spec_l06Versions_k g) (fun z => GI z.1 ∧ z.2.length ≤ 100 ∧ ∀ v ∈ z.2, Sm tVersion v) := by
  refine An.fn (An.bind (P := fun z => GI z.2.1 ∧ z.2.2.length ≤ 100 ∧ ∀ v ∈ z.2.2, Sm tVersion v) (An.loop 10 (fun i x => x.1 = (i : Int) ∧ i ≤ 8 ∧ GI x.2.1 ∧ x.2.2.length ≤ 4 * i ∧ ∀ v ∈ x.2.2, Sm tVersion v) (by omega) ⟨rfl, by omega, h, by simp, nofun⟩ ?_) fun z hz => An.ret hz)
  rintro i ⟨_, c, l⟩ ⟨rfl, h1, h2, h3, h4⟩
  refine An.lb ?_
  dsimp only at h2 h3 h4 ⊢
  refine An.bind (l01Below_a h2 (by omega)) fun y2 g2 => An.dec (fun h5 => An.bind (l05Writes_a g2.2) fun y3 g3 => An.bind (PutVersions_a (by omega) (by have := g3.1.2; omega) _) fun y4 g4 => An.ret ⟨by omega, wsucc (by omega), by omega, g3.2, ?_, ?_⟩) fun _ => An.ret ⟨g2.2, by dsimp only; omega, h4⟩
  · rw [g4, pvF_len]; have := g3.1.2; omega
  · rw [g4]; exact sm_pv _ (fun x hx => sm_write (g3.1.1.1 x hx)) h4
theorem An.rng {β : Type} {i n m : Int} {F : (β → Option Res) → Option Res} {Q : β → Prop} (hi : 0 ≤ i) (hl : 0 < n) (hn : n = m) (H : 0 ≤ i.tmod n → i.tmod n < m → An F Q) : An (fun k => if 0 ≤ i.tmod n ∧ i.tmod n < m then F k else none) Q := by
  subst hn
  have h1 := Int.tmod_nonneg n hi
  have h2 := Int.tmod_lt_of_pos i (b := n) hl
  exact An.ite ⟨h1, h2⟩ (H h1 h2)
theorem set_all {α : Type} {p : α → Prop} {l : List α} (h : ∀ x ∈ l, p x) {i : Nat} {y : α} (hy : p y) : ∀ x ∈ l.set i y, p x := fun x hx => by
  rcases List.mem_or_eq_of_mem_set hx with hx | rfl
  · exact h x hx
  · exact hy
theorem l06Any_a {g : tG} (h : GI g) : An (spec_l06Any_k g) (fun z => GI z.1 ∧ z.2.length ≤ 100 ∧ ∀ v ∈ z.2, Sm tVersion v) := by
  refine An.fn (An.bind (l01Below_g h _) fun y1 g1 => An.bind (l01Below_a g1 (by omega)) fun y2 g2 => An.bind (l06Versions_a g2.2) fun y3 g3 => An.ite (by have := g3.2.1; simp [maxLen_eq]; omega) ?_)
  rw [List.nil_append]
  have hl := g3.2.1
  have hp := g2.1.1
  refine An.dec (fun h0 => An.itn (by omega) ?_) fun _ => An.ret g3
  have fin : ∀ v, Sm tVersion v → GI y3.1 ∧ (y3.2.set (y2.1.tmod (y3.2.length : Int)).toNat v).length ≤ 100 ∧ ∀ w ∈ y3.2.set (y2.1.tmod (y3.2.length : Int)).toNat v, Sm tVersion w := fun v hv => ⟨g3.1, by simpa using hl, set_all g3.2.2 hv⟩
  have old : 0 ≤ y2.1.tmod (y3.2.length : Int) → y2.1.tmod (y3.2.length : Int) < (y3.2.length : Int) → Sm tVersion (y3.2.getD (y2.1.tmod (y3.2.length : Int)).toNat zVersion) := fun a b => g3.2.2 _ (getD_mem _ _ (by omega))
  refine An.beq (fun _ => An.rng hp (by omega) (by rfl) fun _ _ => An.rng hp (by omega) rfl fun a b => An.ret (fin _ ?_)) fun _ => An.beq (fun _ => An.rng hp (by omega) (by rfl) fun k1 k2 => An.rng hp (by omega) rfl fun a b => An.ret (fin _ ?_)) fun _ => An.beq (fun _ => An.rng hp (by omega) rfl fun a b => An.ret (fin _ ?_)) fun _ => An.beq (fun _ => An.bind (l01Long_a (n := 13) (by omega) 97) fun y4 g4 => An.rng hp (by omega) rfl fun a b => An.ret (fin _ ?_)) fun _ => An.ret g3
  · exact smVersion.2 (smVersion.1 (old a b))
  · have e : ([(⟨#[]⟩ : ByteArray), ⟨#[65]⟩, ⟨#[122]⟩].getD (y2.1.tmod 3).toNat zStr).size ≤ 1000000 := by
      have := getD_mem zStr [(⟨#[]⟩ : ByteArray), ⟨#[65]⟩, ⟨#[122]⟩] (i := (y2.1.tmod 3).toNat) (by simp at k2 ⊢; omega)
      simp only [List.mem_cons, List.not_mem_nil, or_false] at this
      rcases this with h | h | h <;> rw [h] <;> decide
    exact smVersion.2 ⟨e, (smVersion.1 (old a b)).2⟩
  · exact smVersion.2 (smVersion.1 (old a b))
  · exact smVersion.2 ⟨(smVersion.1 (old a b)).1, by dsimp only; omega⟩
/-- A transaction that is drawn. -/
def TI (t : dTxn) : Prop := Sm tTxn t ∧ t.2.2.2.2.1.length ≤ 20 ∧ t.2.2.2.2.2.1.length ≤ 20 ∧ 0 ≤ t.1 ∧ t.1 ≤ 20000
theorem TI_mk {t : dTxn} {rs : List dRange} {ws : List dWrite} {n : ByteArray} {a : Int} (h0 : 0 ≤ a ∧ a ≤ 20000) (b c d : Int) (o : Bool) (h1 : rs.length ≤ 20 ∧ ∀ r ∈ rs, Sm tRange r) (h2 : ws.length ≤ 20 ∧ ∀ w ∈ ws, Sm tWrite w) (h3 : n.size ≤ 1000000) : TI (a, b, c, d, rs, ws, o, n) :=
  ⟨smTxn.2 ⟨⟨by dsimp only; omega, h1.2⟩, ⟨by dsimp only; omega, h2.2⟩, h3⟩, h1.1, h2.1, h0⟩
theorem l07Txn_a {g : tG} (h : GI g) : An (spec_l07Txn_k g) (fun z => (TI z.1 ∧ z.1.2.2.2.2.1.length ≤ 10 ∧ z.1.2.2.2.2.2.1.length ≤ 10) ∧ GI z.2) := by
  refine An.fn (An.bind (l01Below_a h (by omega)) fun y1 g1 => An.bind (l01Below_g g1.2 _) fun y2 g2 => An.bind (l01Below_g g2 _) fun y3 g3 => An.bind (l05Ranges_a g3) fun y4 g4 => An.bind (l05Writes_a g4.1) fun y5 g5 => ?_)
  have h0 : 0 ≤ W (1 + y1.1) ∧ W (1 + y1.1) ≤ 20000 := by rw [W_eq (by omega) (by omega)]; omega
  have hr : y4.2.length ≤ 20 ∧ ∀ r ∈ y4.2, Sm tRange r := ⟨by have := g4.2.1; omega, g4.2.2⟩
  have hw : y5.1.length ≤ 20 ∧ ∀ w ∈ y5.1, Sm tWrite w := ⟨by have := g5.1.2; omega, fun w hw => sm_write (g5.1.1.1 w hw)⟩
  have z0 : (⟨#[]⟩ : ByteArray).size ≤ 1000000 := by show (0 : Nat) ≤ _; omega
  have w4 : y5.1.length ≤ 10 := by have := g5.1.2; omega
  exact An.beq (fun _ => An.bind (l05Key_a g5.2) fun y6 g6 => An.bind (l01Once_a g6.2 _) fun y7 g7 => An.ret ⟨⟨TI_mk (t := zTxn) h0 _ _ _ _ hr hw (by have := g6.1.le; omega), g4.2.1, w4⟩, g7⟩) fun _ => An.beq (fun _ => An.bind (l01Below_g g5.2 _) fun y8 g8 => An.bind (l01Once_a g8 _) fun y9 g9 => An.ret ⟨⟨TI_mk (t := zTxn) h0 _ _ _ _ hr hw z0, g4.2.1, w4⟩, g9⟩) fun _ => An.ret ⟨⟨TI_mk (t := zTxn) h0 _ _ _ _ hr hw z0, g4.2.1, w4⟩, g5.2⟩
theorem l05Any_a {g : tG} (h : GI g) : An (spec_l05Any_k g) (fun z => Sm tWrite z.1 ∧ GI z.2) := by
  refine An.fn (An.bind (l05Write_a h) fun y1 g1 => An.bind (l01Below_g g1.2 _) fun y2 g2 => ?_)
  have hs := smWrite.1 (sm_write g1.1)
  refine An.beq (fun _ => An.bind (l01Pick_a g2 (by simp)) fun y3 g3 => An.ret ⟨smWrite.2 ⟨?_, hs.2⟩, g3.2⟩) fun _ => An.beq (fun _ => An.bind (l01Below_a g2 (by omega)) fun y4 g4 => ?_) fun _ => An.beq (fun _ => An.ret ⟨smWrite.2 hs, g2⟩) fun _ => An.ret ⟨smWrite.2 hs, g2⟩
  · have := g3.1
    simp only [List.mem_cons, List.not_mem_nil, or_false] at this
    rcases this with h | h | h | h <;> rw [h] <;> decide
  · have e : W (12 + y4.1) = ((12 + y4.1.toNat : Nat) : Int) := by rw [W_eq (by omega) (by omega)]; omega
    rw [e]
    exact An.bind (l01Long_a (by omega) _) fun y5 g5 => An.ret ⟨smWrite.2 ⟨hs.1, by dsimp only; omega⟩, g4.2⟩
theorem l07Any_a {g : tG} (h : GI g) : An (spec_l07Any_k g) (fun z => TI z.1 ∧ GI z.2) := by
  refine An.fn (An.bind (l01Below_g h _) fun y1 g1 => An.bind (l01Below_a g1 (by omega)) fun y2 g2 => An.bind (l07Txn_a g2.2) fun y3 g3 => An.bind (l07Copy_a g3.1.1.1) fun y4 g4 => ?_)
  subst g4
  have hp := g2.1.1
  have hs := smTxn.1 g3.1.1.1
  have hr : y3.1.2.2.2.2.1.length ≤ 20 ∧ ∀ r ∈ y3.1.2.2.2.2.1, Sm tRange r := ⟨by have := g3.1.2.1; omega, hs.1.2⟩
  have hw : y3.1.2.2.2.2.2.1.length ≤ 20 ∧ ∀ w ∈ y3.1.2.2.2.2.2.1, Sm tWrite w := ⟨by have := g3.1.2.2; omega, hs.2.1.2⟩
  have h0 := g3.1.1.2.2.2
  have r10 := g3.1.2.1
  have w10 := g3.1.2.2
  dsimp only [pT]
  refine An.beq (fun _ => An.rng hp (by omega) (by rfl) fun k1 k2 => An.ret ⟨TI_mk (t := zTxn) ?_ _ _ _ _ hr hw hs.2.2, g3.2⟩) fun _ => An.beq (fun _ => An.ret ⟨TI_mk (t := zTxn) h0 _ _ _ _ hr hw hs.2.2, g3.2⟩) fun _ => An.beq (fun _ => An.ret ⟨TI_mk (t := zTxn) h0 _ _ _ _ hr hw hs.2.2, g3.2⟩) fun _ => An.beq (fun _ => An.rng hp (by omega) (by rfl) fun k1 k2 => An.ret ⟨TI_mk (t := zTxn) h0 _ _ _ _ hr hw ?_, g3.2⟩) fun _ => An.beq (fun _ => An.ite (by simp [maxLen_eq]; omega) (An.ret ⟨TI_mk (t := zTxn) h0 _ _ _ _ ⟨by simp; omega, fun r h => ?_⟩ hw hs.2.2, g3.2⟩)) fun _ => An.beq (fun _ => An.bind (l05Any_a g3.2) fun y5 g5 => An.ite (by simp [maxLen_eq]; omega) (An.ret ⟨TI_mk (t := zTxn) h0 _ _ _ _ hr ⟨by simp; omega, fun w h => ?_⟩ hs.2.2, g5.2⟩)) fun _ => An.beq (fun _ => An.ret ⟨TI_mk (t := zTxn) h0 _ _ _ _ hr hw hs.2.2, g3.2⟩) fun _ => An.ret ⟨TI_mk (t := zTxn) h0 _ _ _ _ hr hw hs.2.2, g3.2⟩
  · have := getD_mem 0 [(0 : Int), 9999, 10000] (i := (y2.1.tmod 3).toNat) (by simp at k2 ⊢; omega)
    simp only [List.mem_cons, List.not_mem_nil, or_false] at this
    rcases this with h | h | h <;> rw [h] <;> decide
  · have := getD_mem zStr [(⟨#[]⟩ : ByteArray), ⟨#[65]⟩, ⟨#[97, 98]⟩] (i := (y2.1.tmod 3).toNat) (by simp at k2 ⊢; omega)
    simp only [List.mem_cons, List.not_mem_nil, or_false] at this
    rcases this with h | h | h <;> rw [h] <;> decide
  · rcases List.mem_append.1 h with h | h
    · exact hr.2 r h
    · rw [List.mem_singleton.1 h]; exact smRange.2 ⟨by decide, by decide⟩
  · rcases List.mem_append.1 h with h | h
    · exact hw.2 w h
    · rw [List.mem_singleton.1 h]; exact g5.1
/-- A base that is drawn. -/
def BI (b : dBase) : Prop := Sm tBase b ∧ b.1.length ≤ 200 ∧ b.2.1.length ≤ 20 ∧ b.2.2.1.length ≤ 20 ∧ (∀ t ∈ b.2.2.1, t.2.2.2.2.2.1.length ≤ 20 ∧ 0 ≤ t.1 ∧ t.1 ≤ 20000) ∧ 0 ≤ b.2.2.2.2 ∧ b.2.2.2.2 ≤ 20000
theorem l09Any_a {g : tG} (h : GI g) : An (spec_l09Any_k g) (fun z => BI z.1 ∧ GI z.2) := by
  refine An.fn (An.bind (l01Below_g h _) fun y1 g1 => An.bind (l01Below_a g1 (by omega)) fun y2 g2 => An.bind (l09Base_a g2.2) fun y3 g3 => An.bind (l09Copy_a (sm_base g3.1.1)) fun y4 g4 => ?_)
  subst g4
  have hp := g2.1.1
  have hs := smBase.1 (sm_base g3.1.1)
  have b1 := g3.1.1.1.2.2
  have b2 := g3.1.1.2.1
  have b3 := g3.1.1.2.2.1
  have fin : ∀ (vs : List dVersion) (ps rs : List dTxn) (c d : Int), (vs.length ≤ 200 ∧ ∀ v ∈ vs, Sm tVersion v) → (ps.length ≤ 20 ∧ ∀ v ∈ ps, Sm tTxn v) → (rs.length ≤ 20 ∧ ∀ v ∈ rs, Sm tTxn v ∧ v.2.2.2.2.2.1.length ≤ 20 ∧ 0 ≤ v.1 ∧ v.1 ≤ 20000) → (0 ≤ d ∧ d ≤ 20000) → BI (vs, ps, rs, c, d) := fun vs ps rs c d h1 h2 h3 h4 => ⟨smBase.2 ⟨⟨by dsimp only; omega, h1.2⟩, ⟨by dsimp only; omega, h2.2⟩, ⟨by dsimp only; omega, fun t ht => (h3.2 t ht).1⟩⟩, h1.1, h2.1, h3.1, fun t ht => (h3.2 t ht).2, h4⟩
  have v0 : y3.1.1.length ≤ 200 ∧ ∀ v ∈ y3.1.1, Sm tVersion v := ⟨by omega, hs.1.2⟩
  have p0 : y3.1.2.1.length ≤ 20 ∧ ∀ v ∈ y3.1.2.1, Sm tTxn v := ⟨by omega, hs.2.1.2⟩
  have r0 : y3.1.2.2.1.length ≤ 20 ∧ ∀ v ∈ y3.1.2.2.1, Sm tTxn v ∧ v.2.2.2.2.2.1.length ≤ 20 ∧ 0 ≤ v.1 ∧ v.1 ≤ 20000 := ⟨by omega, fun v hv => ⟨hs.2.2.2 v hv, by have := (g3.1.1.2.2.2.2.2.2.2.1.1 v hv).1.2.2.2.2.1.len; omega, by have := (g3.1.1.2.2.2.2.2.2.2.1.1 v hv).1.1; omega⟩⟩
  have n0 : 0 ≤ y3.1.2.2.2.2 ∧ y3.1.2.2.2.2 ≤ 20000 := by have := g3.1.1.2.2.2.2.1; omega
  have app : ∀ {p : dTxn → Prop} {l : List dTxn} {t : dTxn}, (∀ v ∈ l, p v) → p t → ∀ v ∈ l ++ [t], p v := fun h1 h2 v hv => by
    rcases List.mem_append.1 hv with hv | hv
    · exact h1 v hv
    · rw [List.mem_singleton.1 hv]; exact h2
  dsimp only [pB]
  exact An.beq (fun _ => An.rng hp (by omega) (by rfl) fun _ _ => An.ret ⟨fin _ _ _ _ _ v0 p0 r0 n0, g3.2⟩) fun _ => An.beq (fun _ => An.ret ⟨fin _ _ _ _ _ v0 p0 r0 (by have a := Int.tmod_nonneg 4 hp; have b := Int.tmod_lt_of_pos y2.1 (b := 4) (by omega); omega), g3.2⟩) fun _ => An.beq (fun _ => An.bind (l07Any_a g3.2) fun y5 g5 => An.ite (by simp [maxLen_eq]; omega) (An.ret ⟨fin _ _ _ _ _ v0 ⟨by simp; omega, app p0.2 g5.1.1⟩ r0 n0, g5.2⟩)) fun _ => An.beq (fun _ => An.bind (l07Any_a g3.2) fun y5 g5 => An.ite (by simp [maxLen_eq]; omega) (An.ret ⟨fin _ _ _ _ _ v0 p0 ⟨by simp; omega, app r0.2 ⟨g5.1.1, g5.1.2.2⟩⟩ n0, g5.2⟩)) fun _ => An.beq (fun _ => An.bind (l06Any_a g3.2) fun y7 g7 => An.ret ⟨fin _ _ _ _ _ ⟨by have := g7.2.1; omega, g7.2.2⟩ p0 r0 n0, g7.1⟩) fun _ => An.ret ⟨fin _ _ _ _ _ v0 p0 r0 n0, g3.2⟩
theorem l09Pair_a {x : List Int} (hx : x.length ≤ 1048576) : An (spec_l09Pair_k x) (fun z => BI z.1 ∧ Sm tTxn z.2 ∧ z.2.2.2.2.2.2.1.length ≤ 20 ∧ 0 ≤ z.2.1 ∧ z.2.1 ≤ 20000) := by
  refine An.fn (An.bind (l01New_a hx) fun y1 g1 => An.bind (l01Below_g g1 _) fun y2 g2 => An.bind (l05Ranges_a g2) fun y3 g3 => An.bind (l05Writes_a g3.1) fun y4 g4 => An.bind (l09Any_a g4.2) fun y5 g5 => An.bind (l01Below_g g5.2 _) fun y6 g6 => ?_)
  have J : ∀ (b : Bool) (q : Int × Int) (r : Bool × ByteArray) (t : dTxn), Sm tTxn t ∧ t.2.2.2.2.2.1.length ≤ 20 ∧ 0 ≤ t.1 ∧ t.1 ≤ 20000 → An (spec_l09Pair_j15000008.f (b && decide ((y5.1.2.2.1.length : Int) > 0), q, r, y5.1) t) (fun t => Sm tTxn t ∧ t.2.2.2.2.2.1.length ≤ 20 ∧ 0 ≤ t.1 ∧ t.1 ≤ 20000) := fun b q r t ht => by
    refine An.lb (An.bif (fun h => An.ite ?_ (An.ret ⟨(smBase.1 g5.1.1).2.2.2 _ (rd_mem _ _ ?_), g5.1.2.2.2.2.1 _ (rd_mem _ _ ?_)⟩)) fun _ => An.ret ht)
    all_goals
      simp only [Bool.and_eq_true, decide_eq_true_eq] at h
      first | omega | (dsimp only; omega)
  have ht : Sm tTxn (y5.1.2.2.2.2, (1, (y6.1, (0, (y3.2, (y4.1, (false, (⟨#[]⟩ : ByteArray)))))))) := smTxn.2 ⟨⟨by have := g3.2.1; dsimp only; omega, g3.2.2⟩, ⟨by have := g4.1.2; dsimp only; omega, fun w hw => sm_write (g4.1.1.1 w hw)⟩, by show (0 : Nat) ≤ _; omega⟩
  exact An.beq (fun _ => An.bind (J true _ _ _ ⟨ht, by have := g4.1.2; dsimp only; omega, g5.1.2.2.2.2.2⟩) fun z hz => An.ret ⟨g5.1, hz⟩) fun _ => An.bind (J false _ _ _ ⟨ht, by have := g4.1.2; dsimp only; omega, g5.1.2.2.2.2.2⟩) fun z hz => An.ret ⟨g5.1, hz⟩
end Go.VE
namespace Go.VE
set_option linter.unusedVariables false
set_option linter.unusedSimpArgs false
theorem copyTxn_i {t : dTxn} (h : Sm tTxn t) : An (impl_copyTxn_k t) (fun z => z = pT t) := by
  have hs := smTxn.1 h
  exact An.fn (An.ite (by have := hs.1.1; simp [maxLen_eq]; omega) (An.ite (by have := hs.2.1.1; simp [maxLen_eq]; omega) (An.ret rfl)))
theorem copyTxns_i {l : List dTxn} (hl : l.length ≤ 1000000) (hs : ∀ t ∈ l, Sm tTxn t) : An (impl_copyTxns_k l) (fun z => z = l) := by
  refine An.fn (An.bind (An.run (n := l.length) (Q := fun z => z.2 = l) (fun i => ((i : Int), l.take i)) (by omega) rfl (fun i hi => ?_) ?_) fun z h => An.ret h)
  · refine An.lb ?_
    dsimp only
    rw [rd_get _ _ _ hi]
    refine An.dec (fun _ => An.ite (by omega) (An.bind (copyTxn_i (hs _ (List.getElem_mem hi))) fun y hy => ?_)) fun h => absurd (by omega) h
    subst hy
    exact An.ite (by simp [maxLen_eq]; omega) (An.ret (by rw [← wsucc (by omega), List.take_succ_eq_append_getElem hi]; rfl))
  · refine An.lb (An.dec (fun h => absurd h (by dsimp only; omega)) fun _ => An.ret ?_)
    simp only [Sum.elim_inr, List.take_length]
theorem copyBase_i {b : dBase} (h : Sm tBase b) : An (impl_copyBase_k b) (fun z => z = pB b) := by
  have hs := smBase.1 h
  refine An.fn (An.ite (by have := hs.1.1; simp [maxLen_eq]; omega) (An.bind (copyTxns_i hs.2.1.1 hs.2.1.2) fun y1 h1 => An.bind (copyTxns_i hs.2.2.1 hs.2.2.2) fun y2 h2 => An.ret (by rw [h1, h2]; rfl)))
theorem isDone_i (t : dTxn) : An (impl_isDone_k t) (fun z => z = (t.2.1 == 3)) := An.fn (An.ret rfl)
theorem Beside1_i (a b : dTxn) : An (impl_Beside_1_k (a, b)) (fun z => z = (a.2.1 == 3 && decide (a.2.2.2.1 ≤ b.2.2.1))) := by
  refine An.fn ?_
  dsimp only
  cases a.2.1 == 3 <;> exact An.ret rfl
theorem Beside_i (a b : dTxn) : An (impl_Beside_k (a, b)) (fun z => z = besideB a b) := by
  refine An.fn ?_
  dsimp only
  refine An.bif (fun h => An.bind (Beside1_i a b) fun y1 h1 => An.nt (fun h2 => An.bind (Beside1_i b a) fun y3 h3 => An.ret ?_) fun h2 => An.ret ?_) fun h => An.ret ?_
  all_goals
    unfold besideB
    simp only [bne] at h
  · rw [h, ← h1, h2, h3]; rfl
  · rw [h, ← h1, h2]; rfl
  · rw [h]; rfl
theorem InRange_i (r : dRange) (key : ByteArray) : An (impl_InRange_k (r, key)) (fun z => z = inR r key) :=
  An.fn (An.nt (fun h => An.ret (by simp only [inR] at h ⊢; rw [h]; rfl)) fun h => An.ret (by simp only [inR] at h ⊢; rw [h]; rfl))
theorem Touches_i {r : List dRange} {w : List dWrite} (hr : r.length ≤ 1000000) (hw : w.length ≤ 1000000) : An (impl_Touches_k (r, w)) (fun z => z = touchB r w) := by
  refine An.fn (An.bind2 (P := fun _ => touchB r w = false) (P' := fun _ => touchB r w = true) (An.loop (r.length + 1) (fun i x => x = (i : Int) ∧ i ≤ r.length ∧ touchB (r.take i) w = false) (by omega) ⟨rfl, by omega, by simp [touchB]⟩ ?_) (fun _ hv => An.ret hv.symm) fun _ hv => An.ret hv.symm)
  rintro i _ ⟨rfl, h1, h2⟩
  refine An.lb ?_
  dsimp only
  refine An.dec (fun h3 => An.ite (by omega) ?_) fun h3 => An.ret (by
    have : r.take i = r := List.take_of_length_le (by omega)
    rw [this] at h2; exact h2)
  have hi : i < r.length := by omega
  rw [rd_get _ _ _ hi]
  refine An.bind2 (P := fun _ => (w.any fun b => inR r[i] b.1) = true) (P' := fun _ => (w.any fun b => inR r[i] b.1) = false) (An.loop (w.length + 1) (fun j x => x = (j : Int) ∧ j ≤ w.length ∧ ((w.take j).any fun b => inR r[i] b.1) = false) (by omega) ⟨rfl, by omega, by simp⟩ ?_) (fun _ hv => An.ret ?_) fun _ hv => An.ret ?_
  · rintro j _ ⟨rfl, k1, k2⟩
    refine An.lb ?_
    dsimp only
    refine An.dec (fun h3 => An.ite (by omega) ?_) fun h3 => An.ret (by
      have : w.take j = w := List.take_of_length_le (by omega)
      rw [this] at k2; exact k2)
    have hj : j < w.length := by omega
    rw [rd_get _ _ _ hj]
    refine An.bind (InRange_i _ _) fun y hy => An.bif (fun h => An.ret ?_) fun h => An.ret ⟨by omega, wsucc (by omega), by omega, ?_⟩
    · exact List.any_eq_true.2 ⟨_, List.getElem_mem hj, by rw [← hy]; exact h⟩
    · rw [List.take_succ_eq_append_getElem hj, List.any_append, k2, ← Bool.not_eq_true]; simp [← hy, h]
  · exact List.any_eq_true.2 ⟨_, List.getElem_mem hi, hv⟩
  · refine ⟨by omega, wsucc (by omega), by omega, ?_⟩
    unfold touchB at h2 ⊢
    rw [List.take_succ_eq_append_getElem hi, List.any_append, h2]
    simp only [List.any_cons, List.any_nil, hv, Bool.or_false]
theorem Ahead_i {a b : dTxn} (ha : Sm tTxn a) (hb : Sm tTxn b) : An (impl_Ahead_k (a, b)) (fun z => z = aheadB a b) :=
  An.fn (An.bind (Beside_i a b) fun y hy => An.bif (fun h => An.bind (Touches_i (smTxn.1 ha).1.1 (smTxn.1 hb).2.1.1) fun y2 h2 => An.ret (by rw [h2, aheadB, ← hy, h]; rfl)) fun h => An.ret (by rw [aheadB, ← hy, h]; rfl))
/-- The first of which f holds, or -1. -/
def AtI {α : Type} (f : α → Bool) (l : List α) (z : Int) : Prop := (z = -1 ∧ ∀ t ∈ l, f t = false) ∨ ∃ i, ∃ h : i < l.length, z = (i : Int) ∧ f l[i] = true ∧ ∀ j (hj : j < l.length), j < i → f l[j] = false
theorem An.idx {α σ : Type} {b : LB (List α × Int) (Int × σ) ((Int × σ) ⊕ ((Int × Int × σ) ⊕ (Int × σ)))} {l : List α} {c : σ} (f : α → Bool) (hl : l.length ≤ 1000000)
    (hs : ∀ i (h : i < l.length), An (b.f (l, (l.length : Int)) ((i : Int), c)) (Sum.elim (fun z => z = (W ((i : Int) + 1), c) ∧ f l[i] = false) (Sum.elim (fun z => z = ((i : Int), (i : Int), c) ∧ f l[i] = true) fun _ => False)))
    (he : An (b.f (l, (l.length : Int)) ((l.length : Int), c)) (Sum.elim (fun _ => False) (Sum.elim (fun _ => False) fun z => z.2 = c))) :
    An (lpK b (l, (l.length : Int)) (0, c)) (Sum.elim (fun z => z.2.2 = c ∧ AtI f l z.1) fun z => z.2 = c ∧ ∀ t ∈ l, f t = false) := by
  refine An.loop (l.length + 1) (fun i x => x = ((i : Int), c) ∧ i ≤ l.length ∧ ∀ j (hj : j < l.length), j < i → f l[j] = false) (by omega) ⟨rfl, by omega, fun j _ h => absurd h (by omega)⟩ ?_
  rintro i _ ⟨rfl, h1, h2⟩
  by_cases hi : i < l.length
  · refine (hs i hi).mono fun v hv => ?_
    rcases v with v | v | v
    · refine ⟨by omega, by rw [← wsucc (by omega)]; exact hv.1, by omega, fun j hj hji => ?_⟩
      by_cases e : j = i
      · subst e; exact hv.2
      · exact h2 j hj (by omega)
    · obtain ⟨rfl, h3⟩ := hv
      exact ⟨rfl, .inr ⟨i, hi, rfl, h3, h2⟩⟩
    · exact hv.elim
  · have : i = l.length := by omega
    subst this
    refine he.mono fun v hv => ?_
    rcases v with v | v | v
    · exact hv.elim
    · exact hv.elim
    · refine ⟨hv, fun t ht => ?_⟩
      obtain ⟨j, hj, rfl⟩ := List.getElem_of_mem ht
      exact h2 j hj hj
theorem OutOf1_i {a t : dTxn} (ha : Sm tTxn a) (ht : Sm tTxn t) : An (impl_OutOf_1_k (a, t)) (fun z => z = (a.2.1 == 3 && aheadB t a, t)) :=
  An.fn (An.bind (isDone_i a) fun y hy => An.bif (fun h => An.bind (Ahead_i ht ha) fun y2 h2 => An.ret (by rw [h2, ← hy, h]; rfl)) fun h => An.ret (by rw [← hy, h]; rfl))
theorem OutOf_i {t : dTxn} {l : List dTxn} (ht : Sm tTxn t) (hl : l.length ≤ 1000000) (hs : ∀ x ∈ l, Sm tTxn x) : An (impl_OutOf_k (t, l)) (fun z => z = outOfB t l) := by
  have ix : An (slices_IndexFunc_Txn_OutOf_1_k (l, t)) (fun z => z.2 = t ∧ AtI (fun x => x.2.1 == 3 && aheadB t x) l z.1) := by
    refine An.fn (An.bind2 (An.idx (fun x => x.2.1 == 3 && aheadB t x) hl (fun i hi => ?_) ?_) (fun z hz => An.ret hz) fun z hz => An.ret ⟨hz.1, .inl ⟨rfl, hz.2⟩⟩)
    · replace hi : i < l.length := hi
      refine An.lb ?_
      dsimp only
      rw [rd_get _ _ _ hi]
      refine An.dec (fun _ => An.ite (by omega) (An.bind (OutOf1_i (hs _ (List.getElem_mem hi)) ht) fun y hy => ?_)) fun h => absurd (by omega) h
      subst hy
      exact An.bif (fun h => An.ret ⟨rfl, h⟩) fun h => An.ret ⟨rfl, h⟩
    · exact An.lb (An.dec (fun h => absurd h (by dsimp only; omega)) fun _ => An.ret rfl)
  refine An.fn (An.bind (P := fun z => z.1 = outOfB t l) (An.fn (An.bind (An.fn (Q := fun z : Bool × dTxn => z.1 = outOfB t l) (An.bind ix fun y hy => An.ret ?_)) fun y hy => An.ret hy)) fun y hy => An.ret hy)
  rcases hy.2 with ⟨h, h2⟩ | ⟨i, hi, h, h2, _⟩
  · rw [h]; exact (List.any_eq_false.2 fun x hx => Bool.eq_false_iff.1 (h2 x hx)).symm
  · rw [h]
    have : outOfB t l = true := List.any_eq_true.2 ⟨_, List.getElem_mem hi, h2⟩
    rw [this]
    exact decide_eq_true (p := (i : Int) ≥ 0) (by omega)
theorem nx_i {b : dBase} {t : dTxn} (h : 0 ≤ t.1 ∧ t.1 ≤ 1000000) : (if W (t.1 + 1) > b.2.2.2.2 then W (t.1 + 1) else b.2.2.2.2) = nxF b t := by
  rw [nxF, W_eq (x := t.1 + 1) (by omega) (by omega)]
  by_cases h2 : t.1 ≥ b.2.2.2.2
  · rw [decide_eq_true h2, if_pos (by omega)]; rfl
  · rw [decide_eq_false h2, if_neg (by omega)]; rfl
end Go.VE
namespace Go.VE
set_option linter.unusedVariables false
set_option linter.unusedSimpArgs false
/-- What a deletion leaves in place. -/
theorem An.del {α σ : Type} {b : LB Unit (Int × Int × List α × σ) ((Int × Int × List α × σ) ⊕ (Int × Int × List α × σ))} {l : List α} {c : σ} {f : α → Bool} {i0 : Nat} (hl : l.length ≤ 1000000) (h0 : i0 < l.length) (h1 : f l[i0] = true) (h2 : ∀ j (hj : j < l.length), j < i0 → f l[j] = false)
    (hs : ∀ (i j : Nat) (l' : List α) (hj : j < l'.length), i < j → l'.length ≤ 1000000 → An (b.f () ((i : Int), (j : Int), l', c)) (Sum.elim (fun z => z = bif f l'[j] then ((i : Int), W ((j : Int) + 1), l', c) else (W ((i : Int) + 1), W ((j : Int) + 1), l'.set i l'[j], c)) fun _ => False))
    (he : ∀ (i : Nat) (l' : List α), An (b.f () ((i : Int), (l'.length : Int), l', c)) (Sum.elim (fun _ => False) fun z => z = ((i : Int), (l'.length : Int), l', c))) :
    An (lpK b () ((i0 : Int), W ((i0 : Int) + 1), l, c)) (fun z => z.2.2.2 = c ∧ ∃ i : Nat, z.1 = (i : Int) ∧ i ≤ z.2.2.1.length ∧ z.2.2.1.length = l.length ∧ z.2.2.1.take i = l.filter fun x => !(f x)) := by
  have f0 : (l.take (i0 + 1)).filter (fun x => !(f x)) = l.take i0 := by
    rw [List.take_succ_eq_append_getElem h0, List.filter_append, List.filter_eq_self.2 fun x hx => ?_]
    · simp [h1]
    · obtain ⟨j, hj, rfl⟩ := List.getElem_of_mem hx
      rw [List.length_take] at hj
      rw [List.getElem_take, h2 j (by omega) (by omega)]; rfl
  refine An.loop (l.length + 1) (fun n x => ∃ i j : Nat, ∃ l' : List α, x = ((i : Int), (j : Int), l', c) ∧ j = i0 + 1 + n ∧ i < j ∧ j ≤ l.length ∧ l'.length = l.length ∧ l'.take i = (l.take j).filter (fun x => !(f x)) ∧ ∀ m (hm : m < l.length) (hm' : m < l'.length), j ≤ m → l'[m] = l[m]) (by omega) ⟨i0, i0 + 1, l, by rw [wsucc (by omega)], rfl, by omega, by omega, rfl, f0.symm, fun m _ _ _ => rfl⟩ ?_
  rintro n _ ⟨i, j, l', rfl, e, h3, h4, h5, h6, h7⟩
  by_cases hj : j < l.length
  · have hj' : j < l'.length := by omega
    refine (hs i j l' hj' h3 (by omega)).mono fun v hv => ?_
    rcases v with v | v
    · have e1 := h7 j hj hj' (by omega)
      replace hv : v = bif f l'[j] then ((i : Int), W ((j : Int) + 1), l', c) else (W ((i : Int) + 1), W ((j : Int) + 1), l'.set i l'[j], c) := hv
      refine ⟨by omega, ?_⟩
      rw [e1, wsucc (by omega), wsucc (by omega)] at hv
      cases h8 : f l[j] with
      | true =>
        rw [h8] at hv
        exact ⟨i, j + 1, l', hv, by omega, by omega, by omega, h5, by rw [h6, List.take_succ_eq_append_getElem hj, List.filter_append]; simp [h8], fun m hm hm' h => h7 m hm hm' (by omega)⟩
      | false =>
        rw [h8] at hv
        refine ⟨i + 1, j + 1, l'.set i l[j], hv, by omega, by omega, by omega, by simpa using h5, ?_, fun m hm hm' h => ?_⟩
        · rw [List.take_succ_eq_append_getElem (by simp; omega), List.getElem_set_self, List.take_set_of_le (by omega), h6, List.take_succ_eq_append_getElem hj, List.filter_append]
          simp [h8]
        · rw [List.getElem_set_ne (by omega)]
          exact h7 m hm (by simpa using hm') (by omega)
    · exact hv.elim
  · have e2 : j = l'.length := by omega
    subst e2
    refine (he i l').mono fun v hv => ?_
    rcases v with v | v
    · exact hv.elim
    · replace hv : v = ((i : Int), (l'.length : Int), l', c) := hv
      subst hv
      refine ⟨rfl, i, rfl, by dsimp only; omega, h5, ?_⟩
      show l'.take i = _
      rw [h6, List.take_of_length_le (by omega)]
theorem filter_none {α : Type} {f : α → Bool} {l : List α} (h : ∀ t ∈ l, f t = false) : l.filter (fun x => !(f x)) = l := List.filter_eq_self.2 fun x hx => by rw [h x hx]; rfl
/-! What is the same. -/
theorem sameVersions_l {l : List dVersion} (hl : l.length ≤ 1000000) : An (laws_sameVersions_k (l, l)) (fun z => z = true) := by
  refine An.fn (An.bne (fun h => absurd rfl h) fun _ => An.bind2 (P := fun _ => False) (P' := fun _ => True) (An.go (n := l.length) (by omega) (fun i hi => ?_) ?_) (fun _ h => h.elim) fun _ _ => An.ret rfl)
  · refine An.lb ?_
    dsimp only
    refine (An.dec (fun _ => An.ite (by omega) (An.ite (by omega) (An.nt (fun h => absurd (eqB_refl tVersion _ rfl) (by rw [h]; decide)) fun _ => An.ret rfl))) fun h => absurd (by omega) h)
  · exact An.lb (An.dec (fun h => absurd h (by dsimp only; omega)) fun _ => An.ret trivial)
theorem sameWrites_l {l : List dWrite} (hl : l.length ≤ 1000000) : An (laws_sameWrites_k (l, l)) (fun z => z = true) := by
  refine An.fn (An.bne (fun h => absurd rfl h) fun _ => An.bind2 (P := fun _ => False) (P' := fun _ => True) (An.go (n := l.length) (by omega) (fun i hi => ?_) ?_) (fun _ h => h.elim) fun _ _ => An.ret rfl)
  · refine An.lb ?_
    dsimp only
    refine (An.dec (fun _ => An.ite (by omega) (An.ite (by omega) (An.nt (fun h => absurd (eqB_refl tWrite _ rfl) (by rw [h]; decide)) fun _ => An.ret rfl))) fun h => absurd (by omega) h)
  · exact An.lb (An.dec (fun h => absurd h (by dsimp only; omega)) fun _ => An.ret trivial)
theorem sameTxn_l {t : dTxn} (h : Sm tTxn t) : An (laws_sameTxn_k (t, t)) (fun z => z = true) := by
  have hs := smTxn.1 h
  have h1 := hs.1.1
  refine An.fn (An.bne (fun h => absurd rfl h) fun _ => An.bne (fun h => absurd rfl h) fun _ => An.bne (fun h => absurd rfl h) fun _ => An.bne (fun h => absurd rfl h) fun _ => An.nt (fun h => absurd (beq_self_eq_true _) (by rw [h]; decide)) fun _ => An.nt (fun h => absurd (strEq_refl _) (by rw [h]; decide)) fun _ => An.bne (fun h => absurd rfl h) fun _ => An.bind (sameWrites_l hs.2.1.1) fun y hy => An.nt (fun h => by rw [hy] at h; cases h) fun _ => An.bind2 (P := fun _ => False) (P' := fun _ => True) (An.go (n := t.2.2.2.2.1.length) (by omega) (fun i hi => ?_) ?_) (fun _ h => h.elim) fun _ _ => An.ret rfl)
  · refine An.lb ?_
    dsimp only
    refine (An.dec (fun _ => An.ite (by omega) (An.ite (by omega) (An.nt (fun h => absurd (eqB_refl tRange _ rfl) (by rw [h]; decide)) fun _ => An.ret rfl))) fun h => absurd (by omega) h)
  · exact An.lb (An.dec (fun h => absurd h (by dsimp only; omega)) fun _ => An.ret trivial)
theorem sameTxns_l {l : List dTxn} (hl : l.length ≤ 1000000) (hs : ∀ t ∈ l, Sm tTxn t) : An (laws_sameTxns_k (l, l)) (fun z => z = true) := by
  refine An.fn (An.bne (fun h => absurd rfl h) fun _ => An.bind2 (P := fun _ => False) (P' := fun _ => True) (An.go (n := l.length) (by omega) (fun i hi => ?_) ?_) (fun _ h => h.elim) fun _ _ => An.ret rfl)
  · refine An.lb ?_
    dsimp only
    refine (An.dec (fun _ => An.ite (by omega) (An.ite (by omega) (An.bind (sameTxn_l (hs _ (rd_mem _ _ (by omega)))) fun y hy => An.nt (fun h => by rw [hy] at h; cases h) fun _ => An.ret rfl))) fun h => absurd (by omega) h)
  · exact An.lb (An.dec (fun h => absurd h (by dsimp only; omega)) fun _ => An.ret trivial)
theorem sameBase_l {b c : dBase} (h : Sm tBase b) (e : c = b) : An (laws_sameBase_k (b, c)) (fun z => z = true) := by
  subst e
  have hs := smBase.1 h
  exact An.fn (An.bind (sameVersions_l hs.1.1) fun y1 h1 => An.bif (fun _ => An.bind (sameTxns_l hs.2.1.1 hs.2.1.2) fun y2 h2 => An.bif (fun _ => An.bind (sameTxns_l hs.2.2.1 hs.2.2.2) fun y3 h3 => An.bif (fun _ => An.beq (fun _ => An.ret (beq_self_eq_true _)) fun h => absurd rfl h) fun h => by rw [h3] at h; cases h) fun h => by rw [h2] at h; cases h) fun h => by rw [h1] at h; cases h)
end Go.VE
namespace Go.VE
set_option linter.unusedVariables false
set_option linter.unusedSimpArgs false
/-- The open one of the laws. -/
def oneT (b : dBase) (w : List dWrite) : dTxn := (b.2.2.2.2, 1, b.2.2.2.1, 0, [], w, false, ⟨#[]⟩)
theorem sm_one (b : dBase) {w : List dWrite} (h : WI w) (hl : w.length ≤ 4) : Sm tTxn (oneT b w) := smTxn.2 ⟨⟨by simp [oneT], nofun⟩, ⟨by show w.length ≤ 1000000; omega, fun x hx => sm_write (h.1 x hx)⟩, by show (0 : Nat) ≤ _; omega⟩
end Go.VE
namespace Go.VE
set_option linter.unusedVariables false
set_option linter.unusedSimpArgs false
theorem cmpS_i (a b : ByteArray) : An (cmp_Compare_string_k (a, b)) (fun z => (z < 0 ↔ strLess a b = true) ∧ (z = 0 ↔ a = b)) := by
  have n : ∀ x : ByteArray, An (cmp_isNaN_string_k x) (fun z => z = false) := fun x => An.fn (An.ret (by rw [strEq_refl]; rfl))
  refine An.fn (An.bind (n a) fun y1 h1 => An.bind (n b) fun y2 h2 => An.bif (fun h => by rw [h1] at h; cases h) fun _ => An.bif (fun h => by rw [h2] at h; cases h) fun _ => An.bif (fun h => An.ret ?_) fun h => An.nt (fun h3 => An.ret ?_) fun h3 => An.ret ?_)
  · exact ⟨⟨fun _ => h, fun _ => by omega⟩, ⟨fun h => by omega, fun e => by dsimp only at h; rw [e, strLess_irrefl] at h; cases h⟩⟩
  · dsimp only at h h3
    rw [h, Bool.false_or] at h3
    exact ⟨⟨fun h => by omega, fun h4 => by rw [h] at h4; cases h4⟩, ⟨fun h => by omega, fun e => by rw [e, strEq_refl] at h3; cases h3⟩⟩
  · dsimp only at h h3
    rw [h, Bool.false_or] at h3
    exact ⟨⟨fun h => by omega, fun h4 => by rw [h] at h4; cases h4⟩, ⟨fun _ => strEq_iff.1 h3, fun _ => rfl⟩⟩
end Go.VE
namespace Go.VE
set_option linter.unusedVariables false
set_option linter.unusedSimpArgs false
/-- The place told by what stands there. -/
theorem atN_c (l : List dVersion) (key : ByteArray) (snap : Int) : ∀ n, n ≤ l.length → (atN l key snap n = -1 ∧ ∀ j (hj : j < l.length), j < n → l[j].1 = key → ¬ l[j].2.2.2 ≤ snap) ∨
    ∃ i, ∃ h : i < l.length, i < n ∧ atN l key snap n = (i : Int) ∧ l[i].1 = key ∧ l[i].2.2.2 ≤ snap ∧ ∀ j (hj : j < l.length), j < n → l[j].1 = key → l[j].2.2.2 ≤ snap → l[j].2.2.2 ≤ l[i].2.2.2
  | 0, _ => .inl ⟨rfl, fun j _ h => absurd h (by omega)⟩
  | n + 1, hn => by
    have ih := atN_c l key snap n (by omega)
    have hl : n < l.length := by omega
    simp only [atN, List.getElem?_eq_getElem hl]
    by_cases hk : l[n].1 = key
    · rw [strEq_iff.2 hk, Bool.true_and]
      by_cases hs : l[n].2.2.2 ≤ snap
      · rw [decide_eq_true hs, Bool.true_and]
        rcases ih with ⟨h1, h2⟩ | ⟨i, hi, h1, h2, h3, h4, h5⟩
        · rw [h1]
          refine .inr ⟨n, hl, by omega, by simp, hk, hs, fun j hj hjn e1 e2 => ?_⟩
          by_cases e : j = n
          · subst e; omega
          · exact absurd e2 (h2 j hj (by omega) e1)
        · rw [h2, rd_get _ _ _ hi, decide_eq_false (by omega), Bool.false_or]
          by_cases h6 : l[n].2.2.2 > l[i].2.2.2
          · rw [decide_eq_true h6]
            refine .inr ⟨n, hl, by omega, rfl, hk, hs, fun j hj hjn e1 e2 => ?_⟩
            by_cases e : j = n
            · subst e; omega
            · have := h5 j hj (by omega) e1 e2; omega
          · rw [decide_eq_false h6]
            refine .inr ⟨i, hi, by omega, rfl, h3, h4, fun j hj hjn e1 e2 => ?_⟩
            by_cases e : j = n
            · subst e; omega
            · exact h5 j hj (by omega) e1 e2
      · rw [decide_eq_false hs, Bool.false_and]
        rcases ih with ⟨h1, h2⟩ | ⟨i, hi, h1, h2, h3, h4, h5⟩
        · refine .inl ⟨h1, fun j hj hjn e1 => ?_⟩
          by_cases e : j = n
          · subst e; exact hs
          · exact h2 j hj (by omega) e1
        · refine .inr ⟨i, hi, by omega, h2, h3, h4, fun j hj hjn e1 e2 => ?_⟩
          by_cases e : j = n
          · subst e; exact absurd e2 hs
          · exact h5 j hj (by omega) e1 e2
    · have : strEq l[n].1 key = false := by rw [strEq_beq, decide_eq_false hk]
      rw [this, Bool.false_and]
      rcases ih with ⟨h1, h2⟩ | ⟨i, hi, h1, h2, h3, h4, h5⟩
      · refine .inl ⟨h1, fun j hj hjn e1 => ?_⟩
        by_cases e : j = n
        · subst e; exact absurd e1 hk
        · exact h2 j hj (by omega) e1
      · refine .inr ⟨i, hi, by omega, h2, h3, h4, fun j hj hjn e1 e2 => ?_⟩
        by_cases e : j = n
        · subst e; exact absurd e1 hk
        · exact h5 j hj (by omega) e1 e2
/-! What is seen. -/
noncomputable def seenF (l : List dVersion) (key : ByteArray) (snap : Int) : ByteArray × Bool :=
  bif decide (atN l key snap l.length < 0) then (⟨#[]⟩, false) else bif (rd zVersion l (atN l key snap l.length)).2.2.1 then (⟨#[]⟩, false) else ((rd zVersion l (atN l key snap l.length)).2.1, true)
theorem SeenAt_a {l : List dVersion} (hl : l.length ≤ 1000000) (key : ByteArray) (snap : Int) : An (spec_SeenAt_k (l, key, snap)) (fun z => z = seenF l key snap) := by
  have hr := atN_r l key snap l.length (Nat.le_refl _)
  refine An.fn (An.bind (l06At_a hl key snap) fun y hy => ?_)
  subst hy
  unfold seenF
  dsimp only
  refine An.bif (fun h => An.ret (by rw [h]; rfl)) fun h => An.ite (by have := of_decide_eq_false h; omega) (An.bif (fun h2 => An.ret (by rw [h, h2]; rfl)) fun h2 => An.ite (by have := of_decide_eq_false h; omega) (An.ret (by rw [h, h2]; rfl)))
/-- The version that is seen. -/
def Sees (l : List dVersion) (key : ByteArray) (snap : Int) (v : dVersion) : Prop := v ∈ l ∧ v.1 = key ∧ v.2.2.2 ≤ snap ∧ ∀ u ∈ l, u.1 = key → u.2.2.2 ≤ snap → u.2.2.2 ≤ v.2.2.2
theorem seen_c (l : List dVersion) (key : ByteArray) (snap : Int) : (seenF l key snap = (⟨#[]⟩, false) ∧ ∀ v ∈ l, v.1 = key → ¬ v.2.2.2 ≤ snap) ∨ ∃ i, ∃ h : i < l.length, atN l key snap l.length = (i : Int) ∧ Sees l key snap l[i] ∧ seenF l key snap = bif l[i].2.2.1 then (⟨#[]⟩, false) else (l[i].2.1, true) := by
  rcases atN_c l key snap l.length (Nat.le_refl _) with ⟨h1, h2⟩ | ⟨i, hi, _, h2, h3, h4, h5⟩
  · refine .inl ⟨by unfold seenF; rw [h1]; rfl, fun v hv => ?_⟩
    obtain ⟨j, hj, rfl⟩ := List.getElem_of_mem hv
    exact h2 j hj hj
  · refine .inr ⟨i, hi, h2, ⟨List.getElem_mem hi, h3, h4, fun u hu => ?_⟩, by unfold seenF; rw [h2, decide_eq_false (by omega), rd_get _ _ _ hi]; rfl⟩
    obtain ⟨j, hj, rfl⟩ := List.getElem_of_mem hu
    exact h5 j hj hj
theorem vLt_uniq {l : List dVersion} (h : l.Pairwise vLt) {u v : dVersion} (hu : u ∈ l) (hv : v ∈ l) (h1 : u.1 = v.1) (h2 : u.2.2.2 = v.2.2.2) : u = v := by
  obtain ⟨i, hi, rfl⟩ := List.getElem_of_mem hu
  obtain ⟨j, hj, rfl⟩ := List.getElem_of_mem hv
  have ne : ∀ a b : dVersion, vLt a b → a.1 = b.1 → a.2.2.2 = b.2.2.2 → False := fun a b hab e1 e2 => by
    rcases hab with h | h
    · rw [e1, strLess_irrefl] at h; cases h
    · omega
  rcases Nat.lt_trichotomy i j with h3 | h3 | h3
  · exact (ne _ _ (List.pairwise_iff_getElem.1 h i j hi hj h3) h1 h2).elim
  · subst h3; rfl
  · exact (ne _ _ (List.pairwise_iff_getElem.1 h j i hj hi h3) h1.symm h2.symm).elim
theorem Sees.uniq {l : List dVersion} (h : l.Pairwise vLt) {key : ByteArray} {snap : Int} {u v : dVersion} (hu : Sees l key snap u) (hv : Sees l key snap v) : u = v :=
  vLt_uniq h hu.1 hv.1 (hu.2.1.trans hv.2.1.symm) (by have a := hu.2.2.2 v hv.1 hv.2.1 hv.2.2.1; have b := hv.2.2.2 u hu.1 hu.2.1 hu.2.2.1; omega)
theorem seen_of {l : List dVersion} (h : l.Pairwise vLt) {key : ByteArray} {snap : Int} {v : dVersion} (hv : Sees l key snap v) : seenF l key snap = bif v.2.2.1 then (⟨#[]⟩, false) else (v.2.1, true) := by
  rcases seen_c l key snap with ⟨_, h2⟩ | ⟨i, hi, _, h2, h3⟩
  · exact absurd hv.2.2.1 (h2 v hv.1 hv.2.1)
  · rw [h3, Sees.uniq h h2 hv]
theorem seen_eq {l m : List dVersion} (hl : l.Pairwise vLt) (hm : m.Pairwise vLt) {key : ByteArray} {s t : Int} (h : ∀ v : dVersion, v.2.2.1 = false → (Sees l key s v ↔ Sees m key t v)) : seenF l key s = seenF m key t := by
  rcases seen_c l key s with ⟨h1, h2⟩ | ⟨i, hi, _, h2, h3⟩
  · rw [h1]
    rcases seen_c m key t with ⟨g1, _⟩ | ⟨j, hj, _, g2, g3⟩
    · rw [g1]
    · rw [g3]
      cases hg : m[j].2.2.1 with
      | true => rfl
      | false =>
        have := (h _ hg).2 g2
        exact absurd this.2.2.1 (h2 _ this.1 this.2.1)
  · cases hg : l[i].2.2.1 with
    | false => rw [h3, seen_of hm ((h _ hg).1 h2)]
    | true =>
      rw [h3, hg]
      rcases seen_c m key t with ⟨g1, _⟩ | ⟨j, hj, _, g2, g3⟩
      · rw [g1]; rfl
      · rw [g3]
        cases hg2 : m[j].2.2.1 with
        | true => rfl
        | false =>
          have := Sees.uniq hl ((h _ hg2).2 g2) h2
          rw [this, hg] at hg2
          cases hg2
/-! What is scanned. -/
noncomputable def keysF (l : List dVersion) (r : dRange) : List ByteArray := ((l.map (·.1)).filter (inR r)).foldl (insK id) []
noncomputable def scF (l : List dVersion) (snap : Int) (ks : List ByteArray) : List dRange := (ks.filter fun k => (seenF l k snap).2).map fun k => (k, (seenF l k snap).1)
theorem ScanAt_a {l : List dVersion} (hl : l.length ≤ 100000) (r : dRange) (snap : Int) : An (spec_ScanAt_k (l, r, snap)) (fun z => z = scF l snap (keysF l r)) := by
  have hk : (keysF l r).length ≤ 100000 := by
    have e1 := foldl_insK_len ((l.map (·.1)).filter (inR r)) []
    have e2 := List.length_filter_le (inR r) (l.map (·.1))
    simp only [List.length_nil, List.length_map] at e1 e2
    unfold keysF; omega
  refine An.fn (An.bind (l06Keys_a hl r) fun y1 h1 => ?_)
  replace h1 : y1 = keysF l r := h1
  rw [← h1] at hk ⊢
  refine An.bind (P := fun z => z.2 = scF l snap y1) (An.run (n := y1.length) (fun i => ((i : Int), scF l snap (y1.take i))) (by omega) rfl (fun i hi => ?_) ?_) fun z hz => An.ret hz
  · have e : scF l snap (y1.take (i + 1)) = scF l snap (y1.take i) ++ (bif (seenF l y1[i] snap).2 then [(y1[i], (seenF l y1[i] snap).1)] else []) := by
      rw [List.take_succ_eq_append_getElem hi, scF, List.filter_append, List.map_append, scF]
      cases h : (seenF l y1[i] snap).2 <;> simp [h]
    have hL : (scF l snap (y1.take i)).length ≤ i := by
      have := List.length_filter_le (fun k => (seenF l k snap).2) (y1.take i)
      rw [List.length_take] at this
      rw [scF, List.length_map]; omega
    refine An.lb ?_
    dsimp only
    rw [rd_get _ _ _ hi, e, ← wsucc (by omega)]
    refine An.dec (fun _ => An.ite (by omega) (An.bind (SeenAt_a (by omega) _ _) fun y3 h3 => An.bif (fun h => An.ite (by omega) (An.ite (by simp [maxLen_eq]; omega) (An.ret ?_))) fun h => An.ret ?_)) fun h => absurd (by omega) h
    · rw [h3] at h ⊢; rw [h]; rfl
    · rw [h3] at h; rw [h]; simp
  · refine An.lb (An.dec (fun h => absurd h (by dsimp only; omega)) fun _ => An.ret ?_)
    simp only [Sum.elim_inr, List.take_length]
theorem keys_pw (ks : List ByteArray) : ∀ {out : List ByteArray}, (out.Pairwise fun a b => strLess a b = true) → (ks.foldl (insK id) out).Pairwise fun a b => strLess a b = true := by
  induction ks with
  | nil => intro out h; exact h
  | cons a ks ih => intro out h; exact ih (insK_pw (key := id) h)
theorem insK_has {out : List ByteArray} {w y : ByteArray} : y ∈ insK id out w ↔ y = w ∨ y ∈ out := by
  refine ⟨insK_mem, fun h => ?_⟩
  rcases h with rfl | h
  · simp [insK]
  · cases h1 : strLess y w with
    | true => exact List.mem_append.2 (.inl (List.mem_filter.2 ⟨h, h1⟩))
    | false =>
      cases h2 : strEq y w with
      | true => rw [strEq_iff.1 h2]; simp [insK]
      | false => exact List.mem_append.2 (.inr (List.mem_cons_of_mem _ (List.mem_filter.2 ⟨h, by show (!(strLess y w || strEq y w)) = true; rw [h1, h2]; rfl⟩)))
theorem keys_has {ks : List ByteArray} {y : ByteArray} : ∀ {out : List ByteArray}, y ∈ ks.foldl (insK id) out ↔ y ∈ ks ∨ y ∈ out := by
  induction ks with
  | nil => intro out; simp
  | cons a ks ih =>
    intro out
    rw [List.foldl_cons, ih, insK_has, List.mem_cons]
    exact ⟨fun h => h.elim (fun h => .inl (.inr h)) fun h => h.elim (fun h => .inl (.inl h)) .inr, fun h => h.elim (fun h => h.elim (fun h => .inr (.inl h)) .inl) fun h => .inr (.inr h)⟩
theorem pw_ext {l m : List ByteArray} (hl : l.Pairwise fun a b => strLess a b = true) (hm : m.Pairwise fun a b => strLess a b = true) (h : ∀ x, x ∈ l ↔ x ∈ m) : l = m := by
  induction l generalizing m with
  | nil => cases m with
    | nil => rfl
    | cons b m => exact absurd ((h b).2 (List.mem_cons_self ..)) (by simp)
  | cons a l ih =>
    cases m with
    | nil => exact absurd ((h a).1 (List.mem_cons_self ..)) (by simp)
    | cons b m =>
      rw [List.pairwise_cons] at hl hm
      have e : a = b := by
        rcases List.mem_cons.1 ((h a).1 (List.mem_cons_self ..)) with e | e
        · exact e
        · rcases List.mem_cons.1 ((h b).2 (List.mem_cons_self ..)) with e2 | e2
          · exact e2.symm
          · have h1 := hl.1 b e2
            have h2 := hm.1 a e
            rw [strLess_asymm h1] at h2; cases h2
      subst e
      rw [ih hl.2 hm.2 fun x => ⟨fun hx => ?_, fun hx => ?_⟩]
      · rcases List.mem_cons.1 ((h x).1 (List.mem_cons_of_mem _ hx)) with e | e
        · subst e; have := hl.1 _ hx; rw [strLess_irrefl] at this; cases this
        · exact e
      · rcases List.mem_cons.1 ((h x).2 (List.mem_cons_of_mem _ hx)) with e | e
        · subst e; have := hm.1 _ hx; rw [strLess_irrefl] at this; cases this
        · exact e
theorem keysF_mem {l : List dVersion} {r : dRange} {k : ByteArray} : k ∈ keysF l r ↔ inR r k = true ∧ ∃ v ∈ l, v.1 = k := by
  rw [keysF, keys_has, List.mem_filter, List.mem_map]
  simp [and_comm]
/-- The same is scanned where the same is seen. -/
theorem sc_eq {l m : List dVersion} {s t : Int} {r : dRange} (h : ∀ key, seenF l key s = seenF m key t) : scF l s (keysF l r) = scF m t (keysF m r) := by
  have has : ∀ (l : List dVersion) (s : Int) (k : ByteArray), (seenF l k s).2 = true → ∃ v ∈ l, v.1 = k := fun l s k hk => by
    rcases seen_c l k s with ⟨h1, _⟩ | ⟨i, hi, _, h2, _⟩
    · rw [h1] at hk; cases hk
    · exact ⟨_, h2.1, h2.2.1⟩
  have e : ((keysF l r).filter fun k => (seenF l k s).2) = (keysF m r).filter fun k => (seenF m k t).2 := by
    refine pw_ext ((keys_pw _ List.Pairwise.nil).sublist List.filter_sublist) ((keys_pw _ List.Pairwise.nil).sublist List.filter_sublist) fun x => ?_
    rw [List.mem_filter, List.mem_filter, keysF_mem, keysF_mem, h x]
    exact ⟨fun ⟨⟨h1, _⟩, h2⟩ => ⟨⟨h1, has m t x h2⟩, h2⟩, fun ⟨⟨h1, _⟩, h2⟩ => ⟨⟨h1, has l s x (by rw [h x]; exact h2)⟩, h2⟩⟩
  unfold scF
  rw [e]
  refine List.map_congr_left fun k _ => by rw [h k]
end Go.VE
namespace Go.VE
set_option linter.unusedVariables false
set_option linter.unusedSimpArgs false
theorem all_l : An (laws_all_k ()) (fun z => z = (⟨#[97]⟩, ⟨#[122, 122, 122]⟩)) := An.fn (An.ret rfl)
theorem samePairs_l {l : List dRange} (hl : l.length ≤ 1000000) : An (laws_samePairs_k (l, l)) (fun z => z = true) := by
  refine An.fn (An.bne (fun h => absurd rfl h) fun _ => An.bind2 (P := fun _ => False) (P' := fun _ => True) (An.go (n := l.length) (by omega) (fun i hi => ?_) ?_) (fun _ h => h.elim) fun _ _ => An.ret rfl)
  · refine An.lb ?_
    dsimp only
    refine (An.dec (fun _ => An.ite (by omega) (An.ite (by omega) (An.nt (fun h => absurd (eqB_refl tRange _ rfl) (by rw [h]; decide)) fun _ => An.ret rfl))) fun h => absurd (by omega) h)
  · exact An.lb (An.dec (fun h => absurd h (by dsimp only; omega)) fun _ => An.ret trivial)
theorem sc_len {l : List dVersion} (hl : l.length ≤ 100000) (r : dRange) (snap : Int) : (scF l snap (keysF l r)).length ≤ 100000 := by
  have e1 := foldl_insK_len ((l.map (·.1)).filter (inR r)) []
  have e2 := List.length_filter_le (inR r) (l.map (·.1))
  have e3 := List.length_filter_le (fun k => (seenF l k snap).2) (keysF l r)
  simp only [List.length_nil, List.length_map] at e1 e2
  rw [scF, List.length_map]
  unfold keysF at e3 ⊢
  omega
end Go.VE
namespace Go.VE
set_option linter.unusedVariables false
set_option linter.unusedSimpArgs false
theorem cmpI2_i (a b : Int) : An (cmp_Compare_int_k (a, b)) (fun z => z > 0 ↔ b < a) := by
  have n : ∀ x : Int, An (cmp_isNaN_int_k x) (fun z => z = false) := fun x => An.fn (An.ret (by simp))
  exact An.fn (An.bind (n a) fun y1 h1 => An.bind (n b) fun y2 h2 => An.bif (fun h => by rw [h1] at h; cases h) fun _ => An.bif (fun h => by rw [h2] at h; cases h) fun _ => An.dec (fun h => An.ret ⟨fun h => by omega, fun h4 => by dsimp only at h; omega⟩) fun h => An.dec (fun h3 => An.ret ⟨fun _ => h3, fun _ => by omega⟩) fun h3 => An.ret ⟨fun h => by omega, fun h4 => absurd h4 h3⟩)
theorem cmpV2_i (y v : dVersion) : An (impl_compareVersion_k (y, v)) (fun z => (decide (z > 0)) = !(vLe v y)) := by
  refine An.fn (An.bind (cmpS_i y.1 v.1) fun y1 h1 => An.bne (fun h => An.ret ?_) fun h => An.bind (cmpI2_i _ _) fun y2 h2 => An.ret ?_)
  · have hne : y.1 ≠ v.1 := fun e => h (h1.2.2 e)
    unfold vLe
    rw [strEq_beq, decide_eq_false hne, Bool.false_and, Bool.or_false]
    cases hs : strLess y.1 v.1 with
    | true => have := h1.1.2 hs; exact decide_eq_false (by omega)
    | false => exact decide_eq_true (by
        have : ¬ y1 < 0 := fun h3 => by rw [h1.1.1 h3] at hs; cases hs
        omega)
  · have e := h1.2.1 h
    unfold vLe
    rw [e, strLess_irrefl, strEq_refl, Bool.true_and, Bool.false_or]
    by_cases h3 : v.2.2.2 < y.2.2.2
    · rw [decide_eq_true (h2.2 h3), decide_eq_false (by omega)]; rfl
    · rw [decide_eq_false (fun h4 => h3 (h2.1 h4)), decide_eq_true (by omega)]; rfl
theorem PutIx_i {l : List dVersion} (hl : l.length ≤ 1000000) (v : dVersion) : An (slices_IndexFunc_Version_PutVersions_1_k (l, v)) (fun z => z.2 = v ∧ AtI (fun y => !(vLe v y)) l z.1) := by
  refine An.fn (An.bind2 (An.idx (fun y => !(vLe v y)) hl (fun i hi => ?_) ?_) (fun z hz => An.ret hz) fun z hz => An.ret ⟨hz.1, .inl ⟨rfl, hz.2⟩⟩)
  · replace hi : i < l.length := hi
    refine An.lb ?_
    dsimp only
    rw [rd_get _ _ _ hi]
    refine An.dec (fun _ => An.ite (by omega) (An.bind (P := fun z => z = (!(vLe v l[i]), v)) (An.fn (An.bind (cmpV2_i _ _) fun y hy => An.ret (by rw [hy]))) fun y hy => ?_)) fun h => absurd (by omega) h
    subst hy
    exact An.bif (fun h => An.ret ⟨rfl, h⟩) fun h => An.ret ⟨rfl, h⟩
  · exact An.lb (An.dec (fun h => absurd h (by dsimp only; omega)) fun _ => An.ret rfl)
theorem Insert_i {l ys : List dVersion} {i : Nat} (hi : i ≤ l.length) (hy : 0 < ys.length) (h : l.length + ys.length ≤ 1073741824) : An (slices_Insert_Version_voo_k ((i : Int), l, ys)) (fun z => z.2 = l.take i ++ ys ++ l.drop i) :=
  An.fn (An.ite (by dsimp only; omega) (An.ret rfl))
theorem PutVersions_i {l : List dVersion} {w : List dWrite} (hl : l.length ≤ 100000) (hw : w.length ≤ 100000) (cs : Int) : An (impl_PutVersions_k (l, w, cs)) (fun z => z = pvF l w cs) := by
  refine An.fn (An.ite (by simp [maxLen_eq]; omega) (An.bind (P := fun z => z.2 = pvF l w cs) (An.run (n := w.length) (fun i => ((i : Int), pvF l (w.take i) cs)) (by omega) rfl (fun i hi => ?_) ?_) fun v hv => An.ret hv))
  · have hL := pvF_len l (w.take i) cs
    have e : pvF l (w.take (i + 1)) cs = insV (pvF l (w.take i) cs) (w[i].1, w[i].2.1, w[i].2.2, cs) := by
      rw [List.take_succ_eq_append_getElem hi, pvF, List.foldl_append]; rfl
    rw [e]
    generalize pvF l (w.take i) cs = out at hL ⊢
    simp only [List.length_take] at hL
    refine An.lb ?_
    dsimp only
    rw [rd_get _ _ _ hi]
    generalize (w[i].1, w[i].2.1, w[i].2.2, cs) = v
    refine An.dec (fun _ => An.ite (by omega) (An.bind (PutIx_i (by omega) v) fun y2 g2 => ?_)) fun h => absurd hi (by omega)
    obtain ⟨z, _⟩ := y2
    obtain ⟨rfl, g2⟩ := g2
    rename_i v
    dsimp only at g2 ⊢
    have fin : ∀ k : Nat, k ≤ out.length → (∀ j (h : j < out.length), j < k → vLe v out[j] = true) → (∀ h : k < out.length, vLe v out[k] = false) → An (fun q => slices_Insert_Version_voo_k ((k : Int), out, [v]) (fun y => q (.inl (W ((i : Int) + 1), y.2)))) (Sum.elim (fun z : Int × List dVersion => z = (((i + 1 : Nat) : Int), insV out v)) fun z : Int × List dVersion => z.2 = pvF l w cs) := fun k hk h1 h2 => by
      have ht := takeWhile_len (vLe v) out k hk h1 h2
      refine An.bind (Insert_i hk (by simp) (by simp; omega)) fun y hy => An.ret ?_
      simp only [Sum.elim_inl]
      rw [hy, wsucc (by omega), insV, ht.1, ht.2]; simp
    rcases g2 with ⟨rfl, h2⟩ | ⟨k, hk, rfl, h2, h3⟩
    · refine An.dec (fun _ => fin out.length (Nat.le_refl _) (fun j hj _ => ?_) fun h => absurd h (by omega)) fun h => absurd (by decide) h
      have := h2 _ (List.getElem_mem hj)
      dsimp only at this
      cases hv : vLe v out[j] with
      | true => rfl
      | false => rw [hv] at this; cases this
    · refine An.dec (fun h => absurd h (by omega)) fun _ => fin k (by omega) (fun j hj hjk => ?_) fun _ => ?_
      · have := h3 j hj hjk
        dsimp only at this
        cases hv : vLe v out[j] with
        | true => rfl
        | false => rw [hv] at this; cases this
      · dsimp only at h2
        cases hv : vLe v out[k] with
        | false => rfl
        | true => rw [hv] at h2; cases h2
  · refine An.lb (An.dec (fun h => absurd h (by dsimp only; omega)) fun _ => An.ret ?_)
    simp only [Sum.elim_inr, List.take_length]
abbrev tS : Type := Int × Int × Int × Int × (Bool × ByteArray)
theorem Thr1_i (t : dTxn) (c : tS) : An (impl_Through_1_k (t, c)) (fun z => z = (t.1 == c.1, c)) := An.fn (An.ret rfl)
theorem ThrIx_i {l : List dTxn} (hl : l.length ≤ 1000000) (c : tS) : An (slices_IndexFunc_Txn_Through_1_k (l, c)) (fun z => z.2 = c ∧ AtI (fun t : dTxn => t.1 == c.1) l z.1) := by
  refine An.fn (An.bind2 (An.idx (c := c) (fun t : dTxn => t.1 == c.1) hl (fun i hi => ?_) ?_) (fun z hz => An.ret hz) fun z hz => An.ret ⟨hz.1, .inl ⟨rfl, hz.2⟩⟩)
  · replace hi : i < l.length := hi
    refine An.lb ?_
    dsimp only
    rw [rd_get _ _ _ hi]
    refine An.dec (fun _ => An.ite (by omega) (An.bind (Thr1_i _ c) fun y hy => ?_)) fun h => absurd (by omega) h
    subst hy
    exact An.bif (fun h => An.ret ⟨rfl, h⟩) fun h => An.ret ⟨rfl, h⟩
  · exact An.lb (An.dec (fun h => absurd h (by dsimp only; omega)) fun _ => An.ret rfl)
theorem ThrDel_i {l : List dTxn} (hl : l.length ≤ 1000000) (c : tS) : An (slices_DeleteFunc_Txn_Through_1_vo_k (l, c)) (Sum.elim (fun z => z = (l.filter (fun t => !(t.1 == c.1)), c)) fun z => z = (c.1, c.2.1, c.2.2.1, c.2.2.2.1, c.2.2.2.2, l.filter fun t => !(t.1 == c.1))) := by
  refine An.fn (An.bind (ThrIx_i hl c) fun y1 g1 => ?_)
  obtain ⟨i, c⟩ := y1
  obtain ⟨rfl, g1⟩ := g1
  dsimp only at g1 ⊢
  refine An.beq (fun h => An.ret ?_) fun h => ?_
  · rcases g1 with ⟨_, h2⟩ | ⟨i, hi, h2, _⟩
    · show (l, c) = _; rw [filter_none h2]
    · omega
  · rcases g1 with ⟨h2, _⟩ | ⟨i, hi, rfl, h3, h4⟩
    · exact absurd h2 h
    refine An.bind (An.del (f := fun t : dTxn => t.1 == c.1) (c := c) hl hi h3 h4 (fun i j l' hj hij hl' => ?_) fun i l' => ?_) fun z hz => ?_
    · refine An.lb ?_
      dsimp only
      rw [getD_at _ _ _ hj]
      refine An.dec (fun _ => An.ite (by omega) (An.bind (Thr1_i _ c) fun y hy => ?_)) fun h => absurd (by omega) h
      subst hy
      exact An.nt (fun h => An.ite (by omega) (An.ret (by dsimp only at h; rw [h]; rfl))) fun h => An.ret (by dsimp only at h; rw [h]; rfl)
    · exact An.lb (An.dec (fun h => absurd h (by dsimp only; omega)) fun _ => An.ret rfl)
    · obtain ⟨ec, m, e, h5, h6, h7⟩ := hz
      have e1 : z.2.2.2.1 = c.1 := by rw [ec]
      have e2 : z.2.2.2.2.1 = c.2.1 := by rw [ec]
      have e3 : z.2.2.2.2.2.1 = c.2.2.1 := by rw [ec]
      have e4 : z.2.2.2.2.2.2.1 = c.2.2.2.1 := by rw [ec]
      have e5 : z.2.2.2.2.2.2.2 = c.2.2.2.2 := by rw [ec]
      rw [e, e1, e2, e3, e4, e5]
      refine An.ite (by omega) (An.ite (by simp only [List.length_append, List.length_take, List.length_replicate]; omega) (An.ret ?_))
      show (c.1, c.2.1, c.2.2.1, c.2.2.2.1, c.2.2.2.2, List.take _ _) = _
      rw [List.take_append_of_le_length (by simp only [List.length_take]; omega), List.take_take, ← h7]
      congr 6
      omega
/-- All elements changed in place. -/
theorem An.each {α ε : Type} {b : LB α (Int × List ε) ((Int × List ε) ⊕ (Int × List ε))} {u : α} {xs : List ε} {g : ε → ε} (hl : xs.length ≤ 1000000)
    (hs : ∀ i (hi : i < xs.length) (l : List ε), l.length = xs.length → (∀ h : i < l.length, l[i] = xs[i]) → An (b.f u ((i : Int), l)) (Sum.elim (fun z => z = (W ((i : Int) + 1), l.set i (g xs[i]))) fun _ => False))
    (he : ∀ l : List ε, l.length = xs.length → An (b.f u ((xs.length : Int), l)) (Sum.elim (fun _ => False) fun z => z.2 = l)) : An (lpK b u (0, xs)) (fun z => z.2 = xs.map g) := by
  have hlen : ∀ i, i ≤ xs.length → ((xs.take i).map g ++ xs.drop i).length = xs.length := fun i hi => by simp; omega
  refine An.run (n := xs.length) (fun i => ((i : Int), (xs.take i).map g ++ xs.drop i)) (by omega) (by simp) (fun i hi => (hs i hi _ (hlen i (by omega)) fun h => ?_).mono fun v hv => ?_) ((he _ (hlen _ (Nat.le_refl _))).mono fun v hv => ?_)
  · rw [List.getElem_append_right (by simp; omega)]
    simp only [List.length_map, List.length_take, List.getElem_drop]
    congr 1
    omega
  · rcases v with v | v
    · refine Eq.trans hv ?_
      rw [wsucc (by omega), List.set_append_right _ _ (by simp; omega), List.take_succ_eq_append_getElem hi, List.map_append, List.append_assoc]
      have : i - ((xs.take i).map g).length = 0 := by simp; omega
      rw [this, List.drop_eq_getElem_cons hi, List.set_cons_zero]
      rfl
    · exact hv.elim
  · rcases v with v | v
    · exact hv.elim
    · refine Eq.trans hv ?_
      rw [List.take_length, List.drop_length, List.append_nil]
theorem set_out {r x : dTxn} : (r.1, r.2.1, r.2.2.1, r.2.2.2.1, r.2.2.2.2.1, r.2.2.2.2.2.1, r.2.2.2.2.2.2.1 || aheadB r x, r.2.2.2.2.2.2.2) = bif aheadB r x then setOut r else r := by
  cases aheadB r x
  · rw [Bool.or_false]; rfl
  · rw [Bool.or_true]; rfl
theorem Through_i {b : dBase} {t : dTxn} (hs : Sm tBase b) (ht : Sm tTxn t) (hv : b.1.length ≤ 100000) (hw : t.2.2.2.2.2.1.length ≤ 100000) (hi : 0 ≤ t.1 ∧ t.1 ≤ 1000000) : An (impl_Through_k (b, t)) (fun z => z = thF b t) := by
  have hs' := smBase.1 hs
  have hx := sm_thX (b := b) ht
  refine An.fn (An.bind (copyBase_i hs) fun y1 h1 => An.bind (copyTxn_i ht) fun y2 h2 => ?_)
  subst h1; subst h2
  dsimp only [pB, pT]
  have B : ∀ (r : List dTxn), r.length ≤ 1000000 → (∀ s ∈ r, Sm tTxn s) → An (lpK impl_Through_b0 ((r.length : Int), t.1, t.2.1, t.2.2.1, t.2.2.2.1, t.2.2.2.2.2.2, (0, 0), (W (b.2.2.2.1 + 1), b.2.2.2.2), t.1, t.2.2.1, W (b.2.2.2.1 + 1), (outF b t, ⟨#[]⟩), [], [], [], pvF b.1 t.2.2.2.2.2.1 (W (b.2.2.2.1 + 1)), b.2.1, t.2.2.2.2.1, t.2.2.2.2.2.1) (0, r)) (fun z => z.2 = r.map fun r => bif aheadB r (thX b t) then setOut r else r) := fun r hr hrs => by
    refine An.each hr (fun i hi l hl he => ?_) fun l hl => ?_
    · have hil : i < l.length := by omega
      have he := he hil
      refine An.lb ?_
      dsimp only
      rw [getD_at _ _ _ hil, he]
      refine An.dec (fun _ => An.ite (by omega) (An.bif (fun h => An.ite (by omega) (An.ret ?_)) fun h => An.bind (Ahead_i (hrs _ (List.getElem_mem hi)) hx) fun y8 h8 => An.ite (by omega) (An.ret ?_))) fun h => absurd (by omega) h
      · simp only [Sum.elim_inl]
        rw [← set_out, h, Bool.true_or]; rfl
      · simp only [Sum.elim_inl]
        rw [← set_out, h, Bool.false_or, h8]; rfl
    · exact An.lb (An.dec (fun h => absurd h (by dsimp only; omega)) fun _ => An.ret rfl)
  have hf := List.length_filter_le (fun s : dTxn => !(s.1 == t.1)) b.2.2.1
  have hfs : ∀ s ∈ b.2.2.1.filter (fun s : dTxn => !(s.1 == t.1)), Sm tTxn s := fun s hs => hs'.2.2.2 s (List.mem_filter.1 hs).1
  have J : ∀ o, o = outF b t → ∀ y3, y3 = pvF b.1 t.2.2.2.2.2.1 (W (b.2.2.2.1 + 1)) → An (impl_Through_j5000007.f () (t.1, t.2.1, t.2.2.1, t.2.2.2.1, t.2.2.2.2.2.2, (0, 0), (W (b.2.2.2.1 + 1), b.2.2.2.2), t.1, t.2.2.1, W (b.2.2.2.1 + 1), (o, ⟨#[]⟩), [], [], [], y3, b.2.1, b.2.2.1, t.2.2.2.2.1, t.2.2.2.2.2.1)) (fun z => (z.2.2.2.2.2.2.2.2.1, (z.2.2.2.2.2.2.2.2.2.1, (z.2.2.2.2.2.2.2.2.2.2, z.2.2.2.2.2.1))) = thF b t) := by
    rintro o rfl y3 rfl
    refine An.lb ?_
    dsimp only
    refine An.bind2 (ThrDel_i hs'.2.2.1 (t.1, t.2.1, t.2.2.1, t.2.2.2.1, t.2.2.2.2.2.2)) (fun y hy => ?_) fun y hy => ?_
    all_goals
      subst hy
      dsimp only
      refine An.bind (B _ (by omega) hfs) fun z hz => An.ite (by have := hs'.2.1.1; simp [maxLen_eq]; omega) (An.ret ?_)
      dsimp only
      rw [hz, nx_i hi]
      rfl
  exact An.bif (fun h => An.bind (PutVersions_i hv hw _) fun y3 h3 => An.bind (J true (by rw [outF, h]; rfl) y3 h3) fun z hz => An.ret hz) fun h => An.bind (OutOf_i ht hs'.2.1.1 hs'.2.1.2) fun y5 h5 => An.bind (PutVersions_i hv hw _) fun y6 h6 => An.bind (J y5 (by rw [outF, h, h5]; rfl) y6 h6) fun z hz => An.ret hz
end Go.VE
namespace Go.VE
set_option linter.unusedVariables false
set_option linter.unusedSimpArgs false
theorem DrawThrough_a {x : List Int} (hx : x.length ≤ 1048576) : An (spec_DrawThrough_k x) (fun z => BI z.1 ∧ Sm tTxn z.2 ∧ z.2.2.2.2.2.2.1.length ≤ 20 ∧ 0 ≤ z.2.1 ∧ z.2.1 ≤ 20000) := An.fn (An.bind (l09Pair_a hx) fun y1 g1 => An.ret g1)
theorem sm_th {b : dBase} {t : dTxn} (h : Sm tBase b) (h1 : b.1.length ≤ 1000) (h2 : b.2.1.length ≤ 1000) (ht : Sm tTxn t) (h4 : t.2.2.2.2.2.1.length ≤ 1000) : Sm tBase (thF b t) := by
  have hs := smBase.1 h
  have ht' := smTxn.1 ht
  refine smBase.2 ⟨⟨by show (pvF _ _ _).length ≤ _; rw [pvF_len]; omega, sm_pv _ ht'.2.1.2 hs.1.2⟩, ⟨by show (b.2.1 ++ [_]).length ≤ _; simp; omega, fun x hx => ?_⟩, by
    have := List.length_filter_le (fun r : dTxn => !(r.1 == t.1)) b.2.2.1
    have := hs.2.2.1
    show (thR _ _ _).length ≤ _
    rw [thR, List.length_map]; omega, fun x hx => ?_⟩
  · rcases List.mem_append.1 hx with hx | hx
    · exact hs.2.1.2 x hx
    · rw [List.mem_singleton.1 hx]; exact sm_thX ht
  · obtain ⟨s, hs1, _, rfl | rfl⟩ := mem_thR hx
    · exact hs.2.2.2 _ hs1
    · exact sm_out (hs.2.2.2 _ hs1)
theorem law_FnThrough (x : List Int) : An (laws_FnThrough_k x) (fun z => z = true) := by
  refine An.fn (An.bind (big_a x) fun y1 g1 => An.bif (fun _ => An.ret rfl) fun h1 => ?_)
  have hx := g1 h1
  refine An.bind (DrawThrough_a hx) fun y2 g2 => An.bind (Through_i g2.1.1 g2.2.1 (by have := g2.1.2.1; omega) (by omega) (by omega)) fun y3 h3 => An.bind (Through_a g2.1.1 g2.2.1 (by have := g2.1.2.1; omega) (by omega)) fun y4 h4 => ?_
  have s3 : Sm tBase y3 := by rw [h3]; exact sm_th g2.1.1 (by have := g2.1.2.1; omega) (by have := g2.1.2.2.1; omega) g2.2.1 (by omega)
  refine An.bind (sameBase_l s3 (by rw [h3, h4]; rfl)) fun y5 g5 => An.nt (fun h => by rw [g5] at h; cases h) fun _ => An.bind (DrawBase_a hx) fun b gb => An.bind (DrawWrites_a hx) fun w gw => ?_
  obtain ⟨hb, _⟩ := gb
  obtain ⟨gw, wl⟩ := gw
  have sb := sm_base hb
  have l1 := hb.1.2.2
  have l2 := hb.2.1
  have st := sm_one b gw wl
  have hn := hb.2.2.2.2.1
  have hc := hb.2.2.2.1
  refine An.bind (Through_i (t := oneT b w) sb st (by omega) (by show w.length ≤ _; omega) (by show 0 ≤ b.2.2.2.2 ∧ b.2.2.2.2 ≤ _; omega)) fun y8 h8 => ?_
  have hcs : W (b.2.2.2.1 + 1) = b.2.2.2.1 + 1 := W_eq (by omega) (by omega)
  have ev : y8.1 = pvF b.1 w (b.2.2.2.1 + 1) := by rw [h8, ← hcs]; rfl
  have ec : y8.2.2.2.1 = b.2.2.2.1 + 1 := by rw [h8, ← hcs]; rfl
  have er : y8.2.2.1 = thR (thX b (oneT b w)) b.2.2.2.2 b.2.2.1 := by rw [h8]; rfl
  have ep : y8.2.1 = b.2.1 ++ [thX b (oneT b w)] := by rw [h8]; rfl
  have en' : y8.2.2.2.2 = W (b.2.2.2.2 + 1) := by
    rw [h8]
    show nxF b (oneT b w) = _
    rw [nxF, decide_eq_true (show (oneT b w).1 ≥ b.2.2.2.2 from Int.le_refl _)]; rfl
  have hp := (asc_pw vLt_tr).1 hb.1.2.1
  have hle := hb.2.2.2.2.2.1
  obtain ⟨pp, pm⟩ := pvF_ok (w := w) (cs := b.2.2.2.1 + 1) gw.2 hp fun y hy => .inl (by have := hle y hy; omega)
  have hvl : y8.1.length ≤ 1000 := by rw [ev, pvF_len]; omega
  have hrl : y8.2.2.1.length ≤ 3 := by
    have := List.length_filter_le (fun r : dTxn => !(r.1 == b.2.2.2.2)) b.2.2.1
    have := hb.2.2.1
    rw [er, thR, List.length_map]; omega
  refine An.bind2 (P := fun _ => False) (P' := fun _ => True) (An.go (n := w.length) (by omega) (fun i hi => ?_) ?_) (fun _ h => h.elim) fun _ _ => An.bind2 (P := fun _ => False) (P' := fun _ => True) (An.go (n := y8.2.2.1.length) (by omega) (fun i hi => ?_) ?_) (fun _ h => h.elim) fun _ _ => An.beq (fun _ => An.bind all_l fun y13 h13 => An.bind (ScanAt_a (by omega) _ _) fun y14 h14 => An.bind all_l fun y15 h15 => An.bind (ScanAt_a (by omega) _ _) fun y16 h16 => ?_) fun h => absurd (by rw [ec, hcs]) h
  · have hm := List.getElem_mem hi
    refine An.lb ?_
    dsimp only
    rw [rd_get _ _ _ hi]
    refine An.dec (fun _ => An.ite (by omega) (An.bind (SeenAt_a (by omega) _ _) fun y18 h18 => An.ite (by omega) ?_)) fun h => absurd (by omega) h
    have hs : Sees y8.1 w[i].1 y8.2.2.2.1 (w[i].1, w[i].2.1, w[i].2.2, b.2.2.2.1 + 1) := by
      rw [ev, ec]
      exact ⟨(pm _).2 (.inr ⟨_, hm, rfl⟩), rfl, Int.le_refl _, fun u _ _ h => h⟩
    have h18' : y18 = seenF y8.1 w[i].1 y8.2.2.2.1 := h18
    rw [seen_of (by rw [ev]; exact pp) hs] at h18'
    cases hg : w[i].2.2 with
    | true =>
      rw [hg] at h18'
      replace h18' : y18 = (⟨#[]⟩, false) := h18'
      have hv := (gw.1 _ hm).2.2 hg
      rw [h18', hv]
      refine An.bif (fun h => by cases h) fun _ => An.ite (by omega) (An.nt (fun h => ?_) fun _ => An.ret rfl)
      rw [show strEq (⟨#[]⟩ : ByteArray) ⟨#[]⟩ = true from strEq_refl _] at h; cases h
    | false =>
      rw [hg] at h18'
      replace h18' : y18 = (w[i].2.1, true) := h18'
      rw [h18']
      refine An.bif (fun h => by cases h) fun _ => An.ite (by omega) (An.nt (fun h => ?_) fun _ => An.ret rfl)
      rw [show strEq w[i].2.1 w[i].2.1 = true from strEq_refl _] at h; cases h
  · exact An.lb (An.dec (fun h => absurd h (by dsimp only; omega)) fun _ => An.ret trivial)
  · have hm := List.getElem_mem hi
    refine An.lb ?_
    dsimp only
    rw [rd_get _ _ _ hi]
    have hm2 : y8.2.2.1[i] ∈ (b.2.2.1.filter fun r => !(r.1 == b.2.2.2.2)).map fun r => bif aheadB r (thX b (oneT b w)) then setOut r else r := by
      have : y8.2.2.1[i] ∈ thR (thX b (oneT b w)) b.2.2.2.2 b.2.2.1 := by rw [← er]; exact hm
      exact this
    obtain ⟨s, hs, e⟩ := List.mem_map.1 hm2
    have hsr := (List.mem_filter.1 hs).1
    obtain ⟨k1, k2, k3⟩ := hb.2.2.2.2.2.2.2.1.1 s hsr
    have hid : s.1 < b.2.2.2.2 := hb.2.2.2.2.2.2.2.2.2 _ (List.mem_append.2 (.inr (List.mem_map_of_mem hsr)))
    have hbes : besideB s (thX b (oneT b w)) = true := by
      unfold besideB
      have e1 : (s.1 == (thX b (oneT b w)).1) = false := by
        show (s.1 == b.2.2.2.2) = false
        simp; omega
      have e2 : (s.2.1 == 3) = false := by rw [k2]; rfl
      have e3 : decide ((thX b (oneT b w)).2.2.2.1 ≤ s.2.2.1) = false := by
        show decide (W (b.2.2.2.1 + 1) ≤ s.2.2.1) = false
        rw [hcs]; exact decide_eq_false (by omega)
      rw [e1, e2, e3, Bool.and_false]; rfl
    have hread : y8.2.2.1[i].2.2.2.2.1 = s.2.2.2.2.1 := by
      rw [← e]; cases aheadB s (thX b (oneT b w)) <;> rfl
    have sr := (smTxn.1 (sm_txn k1)).1.1
    refine An.dec (fun _ => An.ite (by omega) (An.bind (Touches_a (by rw [hread]; exact sr) (by omega)) fun y19 h19 => An.bif (fun h => An.ite (by omega) (An.nt (fun h2 => ?_) fun _ => An.ret rfl)) fun _ => An.ret rfl)) fun h => absurd (by omega) h
    rw [h19, hread] at h
    have hah : aheadB s (thX b (oneT b w)) = true := by
      unfold aheadB
      rw [hbes, Bool.true_and]
      exact h
    rw [hah] at e
    rw [← e] at h2
    cases h2
  · exact An.lb (An.dec (fun h => absurd h (by dsimp only; omega)) fun _ => An.ret trivial)
  · have e16 : y16 = y14 := by
      rw [h14, h16, h13, h15, ev]
      refine sc_eq fun key => seen_eq hp pp fun v hg => ⟨fun h => ⟨(pm _).2 (.inl h.1), h.2.1, h.2.2.1, fun u hu e1 e2 => ?_⟩, fun h => ⟨?_, h.2.1, h.2.2.1, fun u hu => h.2.2.2 u ((pm _).2 (.inl hu))⟩⟩
      · rcases (pm _).1 hu with hu | ⟨q, _, rfl⟩
        · exact h.2.2.2 u hu e1 e2
        · dsimp only at e2; omega
      · rcases (pm _).1 h.1 with hu | ⟨q, _, rfl⟩
        · exact hu
        · have := h.2.2.1; dsimp only at this; omega
    rw [e16]
    have hl14 : y14.length ≤ 1000000 := by rw [h14]; have := sc_len (l := y8.1) (by omega) y13 b.2.2.2.1; omega
    have hpl : W ((y8.2.1.length : Int) - 1) = ((b.2.1.length : Nat) : Int) := by
      rw [ep, List.length_append, List.length_singleton, W_eq (by omega) (by omega)]; omega
    have hpl2 : y8.2.1.length = b.2.1.length + 1 := by rw [ep]; simp
    have hrd : rd zTxn y8.2.1 (W ((y8.2.1.length : Int) - 1)) = thX b (oneT b w) := by
      rw [hpl, rd_get _ _ _ (by omega)]
      simp only [ep]
      simp
    refine An.bind (samePairs_l hl14) fun y17 g17 => An.bif (fun _ => An.ite (by rw [hpl]; omega) (An.beq (fun _ => An.ret (by rw [en']; exact beq_self_eq_true _)) fun h => absurd (by rw [hrd]; rfl) h)) fun h => by rw [g17] at h; cases h
end Go.VE
