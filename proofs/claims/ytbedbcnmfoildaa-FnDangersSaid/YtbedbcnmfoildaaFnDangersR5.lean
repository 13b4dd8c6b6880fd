/- Plain laws of the draws: each gives, whatever the bytes. -/
import Derived.Test.YtbedbcnmfoildaaFnDangersR4
namespace Go.VE
noncomputable section
set_option linter.unusedVariables false
set_option linter.unusedSimpArgs false
set_option maxRecDepth 100000

/-- A native program that hands on one value, of which this holds. -/
def Gives {α : Type} (F : (α → Option Res) → Option Res) (Q : α → Prop) : Prop := ∃ v, Q v ∧ ∀ k, F k = k v

theorem gives_ret {α : Type} {v : α} {Q : α → Prop} (h : Q v) : Gives (fun k => k v) Q := ⟨v, h, fun _ => rfl⟩
theorem Gives.bind {α β : Type} {F : (β → Option Res) → Option Res} {R : β → Prop} (hF : Gives F R) {H : β → (α → Option Res) → Option Res} {Q : α → Prop} (hH : ∀ v, R v → Gives (H v) Q) : Gives (fun k => F fun v => H v k) Q := by
  obtain ⟨v, h1, h2⟩ := hF
  obtain ⟨y, h3, h4⟩ := hH v h1
  exact ⟨y, h3, fun k => (h2 _).trans (h4 k)⟩
theorem gives_bif {α : Type} {c : Bool} {F G : (α → Option Res) → Option Res} {Q : α → Prop} (hF : c = true → Gives F Q) (hG : c = false → Gives G Q) : Gives (fun k => bif c then F k else G k) Q := by
  cases c
  · exact hG rfl
  · exact hF rfl
theorem gives_ite {α : Type} {c : Prop} [Decidable c] {F : (α → Option Res) → Option Res} {Q : α → Prop} (hc : c) (hF : Gives F Q) : Gives (fun k => if c then F k else none) Q := by
  simp only [hc, if_true]; exact hF
theorem gives_itn {α : Type} {c : Prop} [Decidable c] {F : (α → Option Res) → Option Res} {Q : α → Prop} (hc : ¬ c) (hF : Gives F Q) : Gives (fun k => if c then none else F k) Q := by
  simp only [hc, if_false]; exact hF
theorem Gives.mono {α : Type} {F : (α → Option Res) → Option Res} {Q R : α → Prop} (h : Gives F Q) (hq : ∀ v, Q v → R v) : Gives F R := by
  obtain ⟨v, h1, h2⟩ := h
  exact ⟨v, hq v h1, h2⟩
theorem gives_loop {β γ : Type} {b : β → (β ⊕ γ → Option Res) → Option Res} {x : β} {n : Nat} {Q : γ → Prop} (h : Gives (b x) (fun r => (∀ y, r = .inl y → Gives (loopK b n y) Q) ∧ ∀ z, r = .inr z → Q z)) : Gives (loopK b (n + 1) x) Q := by
  obtain ⟨v, h1, h2⟩ := h
  cases v with
  | inl y =>
    obtain ⟨w, h3, h4⟩ := h1.1 y rfl
    exact ⟨w, h3, fun k => by rw [loopK, h2]; exact h4 k⟩
  | inr z => exact ⟨z, h1.2 z rfl, fun k => by rw [loopK, h2]; rfl⟩

theorem go_inl {β γ : Type} {Q : γ → Prop} {G : β → Prop} {y : β} (h : G y) : (∀ x, (Sum.inl y : β ⊕ γ) = .inl x → G x) ∧ ∀ z, (Sum.inl y : β ⊕ γ) = .inr z → Q z := ⟨fun _ e => by cases e; exact h, fun _ e => (nomatch e)⟩
theorem go_inr {β γ : Type} {Q : γ → Prop} {G : β → Prop} {z : γ} (h : Q z) : (∀ x, (Sum.inr z : β ⊕ γ) = .inl x → G x) ∧ ∀ w, (Sum.inr z : β ⊕ γ) = .inr w → Q w := ⟨fun _ e => (nomatch e), fun _ e => by cases e; exact h⟩

theorem size0 : (⟨#[]⟩ : ByteArray).size ≤ 20 := by decide
def Dr (l : List Int) (p : Int) : Prop := l.length ≤ 1048576 ∧ 0 ≤ p
def okR (n : Nat) (l : List tRange.D) : Prop := l.length ≤ n ∧ ∀ y ∈ l, y.1.size ≤ 20 ∧ y.2.size ≤ 20
def okW (n : Nat) (l : List tWrite.D) : Prop := l.length ≤ n ∧ ∀ y ∈ l, y.1.size ≤ 20 ∧ y.2.1.size ≤ 20
theorem okR_more {n m : Nat} {l} (h : okR n l) (hm : n ≤ m) : okR m l := ⟨Nat.le_trans h.1 hm, h.2⟩
theorem okW_more {n m : Nat} {l} (h : okW n l) (hm : n ≤ m) : okW m l := ⟨Nat.le_trans h.1 hm, h.2⟩
theorem okR_nil (n : Nat) : okR n [] := ⟨Nat.zero_le _, fun y hy => by cases hy⟩
theorem okW_nil (n : Nat) : okW n [] := ⟨Nat.zero_le _, fun y hy => by cases hy⟩
theorem okR_one {a b : ByteArray} (ha : a.size ≤ 20) (hb : b.size ≤ 20) : okR 1 [(a, b)] := ⟨Nat.le_refl _, fun y hy => by rw [List.mem_singleton] at hy; rw [hy]; exact ⟨ha, hb⟩⟩
theorem okW_one {w : tWrite.D} (ha : w.1.size ≤ 20) (hb : w.2.1.size ≤ 20) : okW 1 [w] := ⟨Nat.le_refl _, fun y hy => by rw [List.mem_singleton] at hy; rw [hy]; exact ⟨ha, hb⟩⟩
theorem okR_append {n m : Nat} {a b} (ha : okR n a) (hb : okR m b) : okR (n + m) (a ++ b) :=
  ⟨by have := ha.1; have := hb.1; rw [List.length_append]; omega, fun y hy => (List.mem_append.mp hy).elim (ha.2 y) (hb.2 y)⟩
theorem okW_append {n m : Nat} {a b} (ha : okW n a) (hb : okW m b) : okW (n + m) (a ++ b) :=
  ⟨by have := ha.1; have := hb.1; rw [List.length_append]; omega, fun y hy => (List.mem_append.mp hy).elim (ha.2 y) (hb.2 y)⟩

theorem rd_mem {α : Type} {d : α} {xs : List α} {i : Int} (h0 : 0 ≤ i) (h1 : i < (xs.length : Int)) : rd d xs i ∈ xs := by
  have h : i.toNat < xs.length := by omega
  have e : rd d xs i = xs[i.toNat] := by unfold rd; simp [List.getD, List.getElem?_eq_getElem h]
  rw [e]
  exact List.getElem_mem h

theorem and255 (v : BitVec (IntKind.bits .i64)) : 0 ≤ IntKind.wrap .i64 ((v &&& BitVec.ofInt (IntKind.bits .i64) (255 : Int)).toNat : Int) ∧ IntKind.wrap .i64 ((v &&& BitVec.ofInt (IntKind.bits .i64) (255 : Int)).toNat : Int) ≤ 255 := by
  have h : (v &&& BitVec.ofInt (IntKind.bits .i64) (255 : Int)).toNat ≤ 255 := by
    rw [BitVec.toNat_and]
    exact Nat.le_trans Nat.and_le_right (by decide)
  rw [wrap64 (by omega) (by omega)]
  omega

theorem spec_l01New_loop {a0 : List Int} (hl : a0.length ≤ 1048576) : ∀ (m : Nat) (i : Nat) (s : Int) (n : Nat), a0.length - i = m → m < n → Gives (loopK spec_l01New_b0 n (a0, s, (i : Int))) (fun z => z.1 = a0) := by
  intro m
  induction m with
  | zero =>
    intro i s n hm hn
    obtain ⟨n, rfl⟩ : ∃ q, n = q + 1 := ⟨n - 1, by omega⟩
    apply gives_loop
    unfold spec_l01New_b0
    refine gives_bif (fun c => by have c := of_decide_eq_true c; (first | dsimp only at c | skip); omega) (fun _ => gives_ret ?_)
    exact go_inr rfl
  | succ m ih =>
    intro i s n hm hn
    obtain ⟨n, rfl⟩ : ∃ q, n = q + 1 := ⟨n - 1, by omega⟩
    apply gives_loop
    unfold spec_l01New_b0
    refine gives_bif (fun c => gives_bif (fun _ => ?_) (fun _ => gives_ret ?_)) (fun _ => gives_ret ?_)
    · refine Gives.bind (R := fun z => z.1 = a0 ∧ z.2.2 = ((i + 1 : Nat) : Int)) ?_ (fun z hz => gives_ret ?_)
      · unfold spec_l01New_j6000001
        refine gives_ite ⟨by dsimp only; omega, by have c := of_decide_eq_true c; dsimp only at c ⊢; omega⟩ (gives_ret ⟨rfl, ?_⟩)
        exact wrap_succ (by omega)
      · refine go_inl ?_
        rw [hz.1, hz.2]
        exact ih (i + 1) _ n (by omega) (by omega)
    · exact go_inr rfl
    · exact go_inr rfl

theorem spec_l01New_G {a0 : List Int} (hl : a0.length ≤ 1048576) : Gives (spec_l01New_k a0) (fun z => Dr z.1 z.2.1) := by
  rw [spec_l01New_e]
  unfold spec_l01New_d
  refine Gives.bind (spec_l01New_loop hl a0.length 0 _ Fuel rfl (by have := fuel_big; omega)) (fun z hz => gives_ret ?_)
  rw [hz]
  exact ⟨hl, Int.le_refl _⟩

theorem spec_l01Byte_G {l : List Int} {p s : Int} (h : Dr l p) : Gives (spec_l01Byte_k l p s) (fun y => 0 ≤ y.1 ∧ y.1 ≤ 255 ∧ Dr y.2.1 y.2.2.1) := by
  rw [spec_l01Byte_e]
  unfold spec_l01Byte_d
  have h1 := h.1
  have h2 := h.2
  refine gives_bif (fun c => gives_ite ⟨h2, of_decide_eq_true c⟩ (gives_ret ⟨(and255 _).1, (and255 _).2, h1, ?_⟩)) (fun _ => gives_ret ⟨(and255 _).1, (and255 _).2, h⟩)
  have c := of_decide_eq_true c
  show 0 ≤ IntKind.wrap .i64 (p + 1)
  rw [wrap64 (by omega) (by omega)]
  omega

theorem spec_l01Below_G {n : Int} (h0 : 0 < n) (h1 : n ≤ 256) {l : List Int} {p s : Int} (h : Dr l p) : Gives (spec_l01Below_k n l p s) (fun y => 0 ≤ y.1 ∧ y.1 < n ∧ Dr y.2.1 y.2.2.1) := by
  rw [spec_l01Below_e]
  unfold spec_l01Below_d
  refine gives_bif (fun c => by have c := of_decide_eq_true c; (first | dsimp only at c | skip); omega) (fun _ => gives_bif (fun _ => ?_) (fun c => absurd h1 (of_decide_eq_false c)))
  refine (spec_l01Byte_G h).bind (fun y hy => gives_itn (by omega) (gives_ret ⟨?_, ?_, hy.2.2⟩))
  · exact Int.tmod_nonneg _ hy.1
  · exact Int.tmod_lt_of_pos _ h0

theorem spec_l01Pick_G {xs : List ByteArray} {Q : ByteArray → Prop} (hx : ∀ x ∈ xs, Q x) (h0 : 0 < xs.length) (h1 : xs.length ≤ 256) {l : List Int} {p s : Int} (h : Dr l p) : Gives (spec_l01Pick_k xs l p s) (fun y => Q y.1 ∧ Dr y.2.1 y.2.2.1) := by
  rw [spec_l01Pick_e]
  unfold spec_l01Pick_d
  refine (spec_l01Below_G (by omega) (by omega) h).bind (fun y hy => gives_ite ⟨hy.1, hy.2.1⟩ (gives_ret ⟨hx _ (rd_mem hy.1 hy.2.1), hy.2.2⟩))

theorem spec_l05Key_G {l : List Int} {p s : Int} (h : Dr l p) : Gives (spec_l05Key_k l p s) (fun y => y.1.size ≤ 20 ∧ Dr y.2.1 y.2.2.1) := by
  rw [spec_l05Key_e]
  unfold spec_l05Key_d
  exact (spec_l01Pick_G (Q := fun x => x.size ≤ 20) (by decide) (by decide) (by decide) h).bind (fun y hy => gives_ret hy)

theorem spec_l01Once_G {n : Int} (h0 : 0 < n) (h1 : n ≤ 256) {l : List Int} {p s : Int} (h : Dr l p) : Gives (spec_l01Once_k n l p s) (fun y => Dr y.2.1 y.2.2.1) := by
  rw [spec_l01Once_e]
  unfold spec_l01Once_d
  exact (spec_l01Below_G h0 h1 h).bind (fun y hy => gives_ret hy.2.2)

theorem spec_l05Range_G {l : List Int} {p s : Int} (h : Dr l p) : Gives (spec_l05Range_k l p s) (fun y => y.1.size ≤ 20 ∧ y.2.1.size ≤ 20 ∧ Dr y.2.2.1 y.2.2.2.1) := by
  rw [spec_l05Range_e]
  unfold spec_l05Range_d
  refine (spec_l05Key_G h).bind (fun y1 h1 => (spec_l01Once_G (by decide) (by decide) h1.2).bind (fun y2 h2 => gives_bif (fun _ => gives_ret ⟨h1.1, h1.1, h2⟩) (fun _ => (spec_l05Key_G h2).bind (fun y3 h3 => gives_bif (fun _ => gives_ret ⟨h3.1, h1.1, h3.2⟩) (fun _ => gives_ret ⟨h1.1, h3.1, h3.2⟩)))))

theorem spec_l05Ranges_loop : ∀ (m i : Nat) (l : List Int) (p s : Int) (acc : List tRange.D) (n : Nat), i + m = 3 → m < n → okR i acc → Dr l p →
    Gives (loopK spec_l05Ranges_b0 n ((i : Int), l, p, s, acc)) (fun z => Dr z.2.1 z.2.2.1 ∧ okR 3 z.2.2.2.2) := by
  intro m
  induction m with
  | zero =>
    intro i l p s acc n hm hn ha h
    obtain ⟨n, rfl⟩ : ∃ q, n = q + 1 := ⟨n - 1, by omega⟩
    apply gives_loop
    unfold spec_l05Ranges_b0
    refine (spec_l01Below_G (by decide) (by decide) h).bind (fun y hy => gives_bif (fun c => by have c := of_decide_eq_true c; have := hy.2.1; dsimp only at c; omega) (fun _ => gives_ret (go_inr ⟨hy.2.2, okR_more ha (by omega)⟩)))
  | succ m ih =>
    intro i l p s acc n hm hn ha h
    obtain ⟨n, rfl⟩ : ∃ q, n = q + 1 := ⟨n - 1, by omega⟩
    apply gives_loop
    unfold spec_l05Ranges_b0
    refine (spec_l01Below_G (by decide) (by decide) h).bind (fun y hy => gives_bif (fun c => (spec_l05Range_G hy.2.2).bind (fun y3 h3 => gives_ite ?_ (gives_ret (go_inl ?_)))) (fun _ => gives_ret (go_inr ⟨hy.2.2, okR_more ha (by omega)⟩)))
    · have := ha.1; simp only [List.length_cons, List.length_nil, VE.maxLen]; omega
    · have e : IntKind.wrap .i64 ((i : Int) + 1) = ((i + 1 : Nat) : Int) := wrap_succ (by omega)
      simp only [e]
      exact ih (i + 1) _ _ _ _ n (by omega) (by omega) (okR_append ha (okR_one h3.1 h3.2.1)) h3.2.2

theorem spec_l05Ranges_G {l : List Int} {p s : Int} (h : Dr l p) : Gives (spec_l05Ranges_k l p s) (fun y => Dr y.1 y.2.1 ∧ okR 3 y.2.2.2) := by
  rw [spec_l05Ranges_e]
  unfold spec_l05Ranges_d
  exact (spec_l05Ranges_loop 3 0 l p s [] Fuel rfl (by have := fuel_big; omega) (okR_nil _) h).bind (fun z hz => gives_ret hz)

theorem spec_l05Write_G {l : List Int} {p s : Int} (h : Dr l p) : Gives (spec_l05Write_k l p s) (fun y => y.1.size ≤ 20 ∧ y.2.1.size ≤ 20 ∧ Dr y.2.2.2.1 y.2.2.2.2.1) := by
  rw [spec_l05Write_e]
  unfold spec_l05Write_d
  refine (spec_l05Key_G h).bind (fun y1 h1 => (spec_l01Pick_G (Q := fun x => x.size ≤ 20) (by decide) (by decide) (by decide) h1.2).bind (fun y2 h2 => (spec_l01Once_G (by decide) (by decide) h2.2).bind (fun y3 h3 => gives_bif (fun _ => gives_ret ⟨h1.1, size0, h3⟩) (fun _ => gives_ret ⟨h1.1, h2.1, h3⟩))))


theorem spec_PutWrite_w0_G {u0 u2 u3 u4} : ∀ (l : List tWrite.D) (s : List tWrite.D) (i m : Nat), (∀ y ∈ l, y.1.size ≤ 20 ∧ y.2.1.size ≤ 20) → okW m s → m + l.length ≤ 1000000 →
    Gives (fun k => spec_PutWrite_w0 u0 u2 u3 u4 l s i k) (fun z => okW (m + l.length) z.2)
  | [], s, i, m, hl, hs, hm => gives_ret hs
  | y :: l, s, i, m, hl, hs, hm => by
    simp only [List.length_cons] at hm
    have hy := hl y (by simp)
    have hl' := fun z hz => hl z (List.mem_cons_of_mem y hz)
    simp only [spec_PutWrite_w0]
    refine gives_bif (fun _ => gives_ite ?_ ?_) (fun _ => ?_)
    · have := hs.1; simp only [List.length_cons, List.length_nil, VE.maxLen]; omega
    · refine (spec_PutWrite_w0_G l (s ++ [y]) (i + 1) (m + 1) hl' (okW_append hs (okW_one hy.1 hy.2)) (by omega)).mono (fun z hz => okW_more hz ?_)
      simp only [List.length_cons]; omega
    · refine (spec_PutWrite_w0_G l s (i + 1) m hl' hs (by omega)).mono (fun z hz => okW_more hz ?_)
      simp only [List.length_cons]; omega

theorem spec_PutWrite_w2_G {u0 u2 u3 u4} : ∀ (l : List tWrite.D) (s : List tWrite.D) (i m : Nat), (∀ y ∈ l, y.1.size ≤ 20 ∧ y.2.1.size ≤ 20) → okW m s → m + l.length ≤ 1000000 →
    Gives (fun k => spec_PutWrite_w2 u0 u2 u3 u4 l s i k) (fun z => okW (m + l.length) z.2)
  | [], s, i, m, hl, hs, hm => gives_ret hs
  | y :: l, s, i, m, hl, hs, hm => by
    simp only [List.length_cons] at hm
    have hy := hl y (by simp)
    have hl' := fun z hz => hl z (List.mem_cons_of_mem y hz)
    simp only [spec_PutWrite_w2]
    refine gives_bif (fun _ => gives_ite ?_ ?_) (fun _ => ?_)
    · have := hs.1; simp only [List.length_cons, List.length_nil, VE.maxLen]; omega
    · refine (spec_PutWrite_w2_G l (s ++ [y]) (i + 1) (m + 1) hl' (okW_append hs (okW_one hy.1 hy.2)) (by omega)).mono (fun z hz => okW_more hz ?_)
      simp only [List.length_cons]; omega
    · refine (spec_PutWrite_w2_G l s (i + 1) m hl' hs (by omega)).mono (fun z hz => okW_more hz ?_)
      simp only [List.length_cons]; omega

theorem spec_PutWrite_G {n : Nat} (hn : n ≤ 1000) {l : List tWrite.D} (hl : okW n l) {w : tWrite.D} (h1 : w.1.size ≤ 20) (h2 : w.2.1.size ≤ 20) : Gives (spec_PutWrite_k l w) (okW (2 * n + 1)) := by
  have hlen := hl.1
  have e : spec_PutWrite_k l w = fun k => spec_PutWrite_t l w k := by funext k; exact spec_PutWrite_r (by omega)
  rw [e]
  unfold spec_PutWrite_t
  refine (spec_PutWrite_w0_G l [] 0 0 hl.2 (okW_nil _) (by omega)).bind (fun z hz => gives_ite ?_ ?_)
  · have := hz.1; simp only [List.length_cons, List.length_nil, VE.maxLen]; omega
  · refine (spec_PutWrite_w2_G l _ 0 (0 + l.length + 1) hl.2 (okW_append hz (okW_one h1 h2)) (by omega)).bind (fun z hz => gives_ret (okW_more hz (by omega)))

theorem spec_l05Writes_loop : ∀ (m i : Nat) (l : List Int) (p s : Int) (acc : List tWrite.D) (n : Nat), i + m = 3 → m < n → okW (4 ^ i) acc → Dr l p →
    Gives (loopK spec_l05Writes_b0 n ((i : Int), l, p, s, acc)) (fun z => Dr z.2.1 z.2.2.1 ∧ okW 64 z.2.2.2.2) := by
  intro m
  induction m with
  | zero =>
    intro i l p s acc n hm hn ha h
    obtain ⟨n, rfl⟩ : ∃ q, n = q + 1 := ⟨n - 1, by omega⟩
    have hp : 4 ^ i ≤ 4 ^ 3 := Nat.pow_le_pow_right (by decide) (by omega)
    apply gives_loop
    unfold spec_l05Writes_b0
    refine (spec_l01Below_G (by decide) (by decide) h).bind (fun y hy => gives_bif (fun c => by have c := of_decide_eq_true c; have := hy.2.1; dsimp only at c; omega) (fun _ => gives_ret (go_inr ⟨hy.2.2, okW_more ha hp⟩)))
  | succ m ih =>
    intro i l p s acc n hm hn ha h
    obtain ⟨n, rfl⟩ : ∃ q, n = q + 1 := ⟨n - 1, by omega⟩
    have hp : 4 ^ i ≤ 4 ^ 3 := Nat.pow_le_pow_right (by decide) (by omega)
    have hq : 4 ^ (i + 1) = 4 * 4 ^ i := by rw [Nat.pow_succ]; omega
    have h1 : 1 ≤ 4 ^ i := Nat.one_le_pow _ _ (by decide)
    apply gives_loop
    unfold spec_l05Writes_b0
    refine (spec_l01Below_G (by decide) (by decide) h).bind (fun y hy => gives_bif (fun c => (spec_l05Write_G hy.2.2).bind (fun y3 h3 => (spec_PutWrite_G (n := 4 ^ i) (by omega) ha h3.1 h3.2.1).bind (fun y4 h4 => gives_ret (go_inl ?_)))) (fun _ => gives_ret (go_inr ⟨hy.2.2, okW_more ha hp⟩)))
    have e : IntKind.wrap .i64 ((i : Int) + 1) = ((i + 1 : Nat) : Int) := wrap_succ (by omega)
    simp only [e]
    exact ih (i + 1) _ _ _ _ n (by omega) (by omega) (okW_more h4 (by omega)) h3.2.2

theorem spec_l05Writes_G {l : List Int} {p s : Int} (h : Dr l p) : Gives (spec_l05Writes_k l p s) (fun y => Dr y.1 y.2.1 ∧ okW 64 y.2.2.2) := by
  rw [spec_l05Writes_e]
  unfold spec_l05Writes_d
  exact (spec_l05Writes_loop 3 0 l p s [] Fuel rfl (by have := fuel_big; omega) (okW_nil _) h).bind (fun z hz => gives_ret hz)

/-- What a drawn transaction is: its Id, name, ranges and writes small; the draw goes on. -/
def OkT (y : Int × Int × Int × Int × Bool × ByteArray × List Int × Int × Int × List tRange.D × List tWrite.D) : Prop :=
  y.2.2.2.2.2.1.size ≤ 20 ∧ Dr y.2.2.2.2.2.2.1 y.2.2.2.2.2.2.2.1 ∧ okR 4 y.2.2.2.2.2.2.2.2.2.1 ∧ okW 65 y.2.2.2.2.2.2.2.2.2.2

theorem wrap1 {n : Int} (h0 : 0 ≤ n) (h1 : n < 100000) : IntKind.wrap .i64 ((1 : Int) + n) = 1 + n := wrap64 (by omega) (by omega)

theorem spec_l07Txn_G {l : List Int} {p s : Int} (h : Dr l p) : Gives (spec_l07Txn_k l p s) (fun y => OkT y ∧ okR 3 y.2.2.2.2.2.2.2.2.2.1 ∧ okW 64 y.2.2.2.2.2.2.2.2.2.2 ∧ 1 ≤ y.1 ∧ y.1 ≤ 6 ∧ 1 ≤ y.2.1 ∧ y.2.1 ≤ 3 ∧ 0 ≤ y.2.2.1 ∧ y.2.2.1 ≤ 5) := by
  rw [spec_l07Txn_e]
  unfold spec_l07Txn_d
  refine (spec_l01Below_G (by decide) (by decide) h).bind (fun y1 h1 => (spec_l01Below_G (by decide) (by decide) h1.2.2).bind (fun y2 h2 => (spec_l01Below_G (by decide) (by decide) h2.2.2).bind (fun y3 h3 => (spec_l05Ranges_G h3.2.2).bind (fun y4 h4 => (spec_l05Writes_G h4.1).bind (fun y5 h5 => ?_)))))
  have w1 := wrap1 h1.1 (by omega)
  have w2 := wrap1 h2.1 (by omega)
  have r4 := okR_more h4.2 (show 3 ≤ 4 by decide)
  have r5 := okW_more h5.2 (show 64 ≤ 65 by decide)
  rw [w1, w2]
  have fin : ∀ {q : Prop}, q → q ∧ okR 3 y4.2.2.2 ∧ okW 64 y5.2.2.2 ∧ 1 ≤ 1 + y1.1 ∧ 1 + y1.1 ≤ 6 ∧ 1 ≤ 1 + y2.1 ∧ 1 + y2.1 ≤ 3 ∧ 0 ≤ y3.1 ∧ y3.1 ≤ 5 := fun hq => ⟨hq, h4.2, h5.2, by omega, by omega, by omega, by omega, by omega, by omega⟩
  refine gives_bif (fun _ => (spec_l05Key_G h5.1).bind (fun y6 h6 => (spec_l01Once_G (by decide) (by decide) h6.2).bind (fun y7 h7 => gives_ret (fin ⟨h6.1, h7, r4, r5⟩)))) (fun _ => gives_bif (fun _ => (spec_l01Below_G (by decide) (by decide) h5.1).bind (fun y8 h8 => (spec_l01Once_G (by decide) (by decide) h8.2.2).bind (fun y9 h9 => gives_ret (fin ⟨size0, h9, r4, r5⟩)))) (fun _ => gives_ret (fin ⟨size0, h5.1, r4, r5⟩)))

theorem spec_l07Copy_G {t : tTxn.D} {n m : Nat} (hn : n ≤ 1000) (hm : m ≤ 1000) (hr : okR n t.2.2.2.2.1) (hw : okW m t.2.2.2.2.2.1) : Gives (spec_l07Copy_k t) (fun y => y = (t.1, t.2.1, t.2.2.1, t.2.2.2.1, t.2.2.2.2.2.2.1, t.2.2.2.2.2.2.2, t.2.2.2.2.1, t.2.2.2.2.2.1)) := by
  rw [spec_l07Copy_e]
  unfold spec_l07Copy_d
  have := hr.1
  have := hw.1
  exact gives_ite (by simp only [List.length_nil, VE.maxLen]; omega) (gives_ite (by simp only [List.length_nil, VE.maxLen]; omega) (gives_ret rfl))

theorem spec_l01Long_loop {n c : Int} (h1 : n ≤ 1000) : ∀ (m : Nat) (i : Int) (x : List Int) (q : Nat), 0 ≤ i → n - i ≤ m → m < q → (x.length : Int) = n → Gives (loopK spec_l01Long_b0 q (n, c, i, x)) (fun z => (z.2.2.2.length : Int) = n) := by
  intro m
  induction m with
  | zero =>
    intro i x q h0 hm hq hx
    obtain ⟨q, rfl⟩ : ∃ r, q = r + 1 := ⟨q - 1, by omega⟩
    apply gives_loop
    unfold spec_l01Long_b0
    exact gives_bif (fun c => by have c := of_decide_eq_true c; (first | dsimp only at c | skip); omega) (fun _ => gives_ret (go_inr hx))
  | succ m ih =>
    intro i x q h0 hm hq hx
    obtain ⟨q, rfl⟩ : ∃ r, q = r + 1 := ⟨q - 1, by omega⟩
    apply gives_loop
    unfold spec_l01Long_b0
    refine gives_bif (fun c => ?_) (fun _ => gives_ret (go_inr hx))
    have c := of_decide_eq_true c
    dsimp only at c
    refine gives_ite ⟨h0, by dsimp only; omega⟩ (gives_ret (go_inl ?_))
    simp only [wrap64 (show -9223372036854775808 ≤ i + 1 by omega) (show i + 1 < 9223372036854775808 by omega)]
    exact ih (i + 1) _ q (by omega) (by omega) (by omega) (by rw [List.length_set]; exact hx)

theorem push_size : ∀ (l : List Int) (f : Int → UInt8) (s : ByteArray), (l.foldl (fun s n => s.push (f n)) s).size = s.size + l.length
  | [], f, s => rfl
  | n :: l, f, s => by
    rw [List.foldl_cons, push_size l f, ByteArray.size_push, List.length_cons]; omega

theorem spec_l01Long_G {n c : Int} (h0 : 0 ≤ n) (h1 : n ≤ 20) : Gives (spec_l01Long_k n c) (fun y => y.size ≤ 20) := by
  rw [spec_l01Long_e]
  unfold spec_l01Long_d
  refine gives_ite ⟨h0, Int.le_refl _, by simp only [VE.maxLen]; omega⟩ ((spec_l01Long_loop (by omega) 20 0 _ Fuel (by omega) (by omega) (by have := fuel_big; omega) (by rw [List.length_replicate]; omega)).bind (fun z hz => gives_ret ?_))
  unfold bytesOf
  rw [push_size _ (fun n => UInt8.ofNat n.toNat)]
  show 0 + _ ≤ 20
  omega

theorem spec_l05Any_G {l : List Int} {p s : Int} (h : Dr l p) : Gives (spec_l05Any_k l p s) (fun y => y.1.size ≤ 20 ∧ y.2.1.size ≤ 20 ∧ Dr y.2.2.2.1 y.2.2.2.2.1) := by
  rw [spec_l05Any_e]
  unfold spec_l05Any_d
  refine (spec_l05Write_G h).bind (fun y1 h1 => (spec_l01Below_G (by decide) (by decide) h1.2.2).bind (fun y2 h2 => gives_bif (fun _ => ?_) (fun _ => gives_bif (fun _ => ?_) (fun _ => gives_bif (fun _ => gives_ret ⟨h1.1, h1.2.1, h2.2.2⟩) (fun _ => gives_ret ⟨h1.1, h1.2.1, h2.2.2⟩)))))
  · exact (spec_l01Pick_G (Q := fun x => x.size ≤ 20) (by decide) (by decide) (by decide) h2.2.2).bind (fun y3 h3 => gives_ret ⟨h3.1, h1.2.1, h3.2⟩)
  · refine (spec_l01Below_G (by decide) (by decide) h2.2.2).bind (fun y4 h4 => ?_)
    have e : IntKind.wrap .i64 ((12 : Int) + y4.1) = 12 + y4.1 := wrap64 (by omega) (by omega)
    rw [e]
    exact (spec_l01Long_G (by omega) (by omega)).bind (fun y5 h5 => gives_ret ⟨h1.1, h5, h4.2.2⟩)

theorem wtL_le {T : Ty} {c : Nat} : ∀ {l : List T.D}, (∀ y ∈ l, T.wt y ≤ c) → wtL T l ≤ c * l.length
  | [], _ => by simp [wtL]
  | y :: l, h => by
    have h1 := h y (by simp)
    have h2 := wtL_le (l := l) (fun z hz => h z (List.mem_cons_of_mem y hz))
    simp only [wtL, List.length_cons, Nat.mul_add]; omega

theorem wt_small {a b c d : Int} {f : Bool} {n : ByteArray} {r : List tRange.D} {w : List tWrite.D} (hn : n.size ≤ 20) (hr : okR 4 r) (hw : okW 65 w) : tTxn.wt (a, (b, (c, (d, (r, (w, (f, n))))))) ≤ 1048576 := by
  have e := wtTxn (a, (b, (c, (d, (r, (w, (f, n)))))))
  have h1 := wtL_le (T := tRange) (c := 40) (l := r) (fun y hy => by have := hr.2 y hy; rw [wtRange]; omega)
  have h2 := wtL_le (T := tWrite) (c := 40) (l := w) (fun y hy => by have := hw.2 y hy; rw [wtWrite]; omega)
  rw [Ty.wt_slice, Ty.wt_slice] at e
  have := hr.1
  have := hw.1
  dsimp only at e
  omega

theorem laws_big_is (l : List Int) (k) : laws_big_k l k = k (decide ((l.length : Int) > 1048576)) := by rw [laws_big_e]; rfl


end
end Go.VE
