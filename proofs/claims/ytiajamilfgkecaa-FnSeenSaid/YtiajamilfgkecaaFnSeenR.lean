/- The plain laws behind FnSeen. -/
import Derived.Test.YtiajamilfgkecaaFnSeenL
import Derived.Test.YtiajamilfgkecaaP3
import Derived.Test.YtiajamilfgkecaaU28
/- Plain laws: keys, ranges, writes, transactions, who is ahead of whom. -/
namespace Go.VE
noncomputable section
set_option linter.unusedVariables false
set_option linter.unusedSimpArgs false
set_option maxRecDepth 100000
def vhd (n lo hi : Int) : Bool := decide (n ≥ lo) && decide (n ≤ hi)
theorem vzi (a b c) (k) : via a b c k = k (vhd a b c) := by
  rw [v0v]; unfold vwj vhd; cases decide (a ≥ b) <;> rfl
def vdo (r : tRange.D) (key : ByteArray) : Bool := !(vab key r.1) && (vab key r.2 || vap key r.2)
theorem v6c (r : tRange.D) (key) (k) : vnj r key k = k (vdo r key) := by
  rw [v02]; unfold vwh vdo; cases vab key r.1 <;> rfl
def vg1 (s : ByteArray) : Bool := !((vcr s).any fun y => decide (y < 97) || decide (y > 122)) && vhd s.size 1 3
theorem vn9 {u0} {u1} : ∀ l i, ∃ j : Int, ∀ k, vhg u0 u1 l i k = k (bif l.any (fun y => decide (y < 97) || decide (y > 122)) then .inl (false, j) else .inr j)
  | [], i => ⟨_, fun k => rfl⟩
  | y :: l, i => by
    obtain ⟨j, hj⟩ := vn9 (u0 := u0) (u1 := u1) l (i + 1)
    simp only [vhg, hj, List.any_cons]
    cases hp : (decide (y < 97) || decide (y > 122))
    · exact ⟨j, fun k => by (try simp only [Bool.false_or]) <;> (try (revert hp; cases decide (y < 97) <;> cases decide (y > 122) <;> simp))⟩
    · exact ⟨(i : Int), fun k => by (try simp only [Bool.true_or, cond_true]) <;> (try (revert hp; cases decide (y < 97) <;> cases decide (y > 122) <;> simp))⟩
theorem v6b {s : ByteArray} (hs : s.size ≤ 1048576) (k) : vl1 s k = k (vg1 s) := by
  rw [v8k (by omega)]
  unfold vy1 vg1
  obtain ⟨j, hj⟩ := vn9 (u0 := s) (u1 := false) (vcr s) 0
  rw [hj]
  cases ((vcr s).any fun y => decide (y < 97) || decide (y > 122))
  · simp [vzi]
  · rfl
def vdp (w : tWrite.D) : Bool := vg1 w.1 && decide ((w.2.1.size : Int) ≤ 12) && (!w.2.2 || vap w.2.1 ⟨#[]⟩)
end
end Go.VE
/- Plain laws: one of a list that passes a test; what is seen; the oldest. -/
namespace Go.VE
noncomputable section
set_option linter.unusedVariables false
set_option linter.unusedSimpArgs false
set_option maxRecDepth 100000
def zV : tVersion.D := Ty.zero tVersion
def vbg (u0 : List tVersion.D) (key : ByteArray) (snap : Int) : List tVersion.D → Int → Nat → Int
  | [], s, _ => s
  | y :: l, s, i => bif vap y.1 key && (decide (y.2.2.2 ≤ snap) && (decide (s < 0) || decide (y.2.2.2 > (rd zV u0 s).2.2.2))) then vbg u0 key snap l (i : Int) (i + 1) else vbg u0 key snap l s (i + 1)
def vct (xs : List tVersion.D) (key : ByteArray) (snap : Int) : Int := vbg xs key snap xs (-1) 0
theorem vj0 {u0 u1 u2} {u4} : ∀ (l : List tVersion.D) (s : Int) (i : Nat), u0.drop i = l → (s < 0 ∨ 0 ≤ s ∧ s < (u0.length : Int)) →
    ∃ j : Int, (∀ k, vd5 u0 u1 u2 u4 l s i k = k (vbg u0 u1 u2 l s i, j)) ∧ (vbg u0 u1 u2 l s i < 0 ∨ 0 ≤ vbg u0 u1 u2 l s i ∧ vbg u0 u1 u2 l s i < (u0.length : Int))
  | [], s, i, _, hs => ⟨_, fun k => rfl, hs⟩
  | y :: l, s, i, h, hs => by
    have hlt := vep h
    obtain ⟨j1, hj1, b1⟩ := vj0 (u0 := u0) (u1 := u1) (u2 := u2) (u4 := u4) l s (i + 1) (vbb h) hs
    obtain ⟨j2, hj2, b2⟩ := vj0 (u0 := u0) (u1 := u1) (u2 := u2) (u4 := u4) l (i : Int) (i + 1) (vbb h) (.inr (by omega))
    have hz : (Ty.zero tVersion) = zV := rfl
    simp only [vd5, hj1, hj2, vbg, hz]
    cases vap y.1 u1
    · exact ⟨j1, fun k => rfl, b1⟩
    · cases decide (y.2.2.2 ≤ u2)
      · exact ⟨j1, fun k => rfl, b1⟩
      · by_cases c : s < 0
        · simp only [c, decide_true, cond_true, Bool.true_or, Bool.and_self]; exact ⟨j2, fun k => rfl, b2⟩
        · simp only [c, decide_false, cond_true, cond_false, Bool.false_or, Bool.true_and]
          simp only [if_pos (show 0 ≤ s ∧ s < (u0.length : Int) by omega)]
          cases decide (y.2.2.2 > (rd zV u0 s).2.2.2)
          · exact ⟨j1, fun k => rfl, b1⟩
          · exact ⟨j2, fun k => rfl, b2⟩
theorem v5h {xs : List tVersion.D} (hl : xs.length ≤ 1048576) (key) (snap) (k) : voh xs key snap k = k (vct xs key snap) := by
  rw [v8j (by omega)]
  unfold vzz vct
  obtain ⟨j, hj, _⟩ := vj0 (u0 := xs) (u1 := key) (u2 := snap) (u4 := xs) xs (-1) 0 rfl (.inl (by omega))
  rw [hj]
theorem vj7 {u0 u1 u2}  : ∀ (l : List tVersion.D) (s : Int) (i : Nat), u0.drop i = l → (s < 0 ∨ 0 ≤ s ∧ s < (u0.length : Int)) →
    ∃ j : Int, (∀ k, vd2 u0 u1 u2  l s i k = k (vbg u0 u1 u2 l s i, j)) ∧ (vbg u0 u1 u2 l s i < 0 ∨ 0 ≤ vbg u0 u1 u2 l s i ∧ vbg u0 u1 u2 l s i < (u0.length : Int))
  | [], s, i, _, hs => ⟨_, fun k => rfl, hs⟩
  | y :: l, s, i, h, hs => by
    have hlt := vep h
    obtain ⟨j1, hj1, b1⟩ := vj7 (u0 := u0) (u1 := u1) (u2 := u2)  l s (i + 1) (vbb h) hs
    obtain ⟨j2, hj2, b2⟩ := vj7 (u0 := u0) (u1 := u1) (u2 := u2)  l (i : Int) (i + 1) (vbb h) (.inr (by omega))
    have hz : (Ty.zero tVersion) = zV := rfl
    simp only [vd2, hj1, hj2, vbg, hz]
    cases vap y.1 u1
    · exact ⟨j1, fun k => rfl, b1⟩
    · cases decide (y.2.2.2 ≤ u2)
      · exact ⟨j1, fun k => rfl, b1⟩
      · by_cases c : s < 0
        · simp only [c, decide_true, cond_true, Bool.true_or, Bool.and_self]; exact ⟨j2, fun k => rfl, b2⟩
        · simp only [c, decide_false, cond_true, cond_false, Bool.false_or, Bool.true_and]
          simp only [if_pos (show 0 ≤ s ∧ s < (u0.length : Int) by omega)]
          cases decide (y.2.2.2 > (rd zV u0 s).2.2.2)
          · exact ⟨j1, fun k => rfl, b1⟩
          · exact ⟨j2, fun k => rfl, b2⟩
theorem v58 {xs : List tVersion.D} (hl : xs.length ≤ 1048576) (key) (snap) (k) : vo2 xs key snap k = k (vct xs key snap) := by
  rw [v7s (by omega)]
  unfold vyk vct
  obtain ⟨j, hj, _⟩ := vj7 (u0 := xs) (u1 := key) (u2 := snap)  xs (-1) 0 rfl (.inl (by omega))
  rw [hj]
theorem vf1 {u0 : List tVersion.D} {key : ByteArray} {snap : Int} : ∀ (l : List tVersion.D) (s : Int) (i : Nat), i + l.length ≤ u0.length → (s < 0 ∨ 0 ≤ s ∧ s < (u0.length : Int)) → (vbg u0 key snap l s i < 0 ∨ 0 ≤ vbg u0 key snap l s i ∧ vbg u0 key snap l s i < (u0.length : Int))
  | [], s, i, _, hs => hs
  | y :: l, s, i, h, hs => by
    simp only [List.length_cons] at h
    simp only [vbg]
    cases (vap y.1 key && (decide (y.2.2.2 ≤ snap) && (decide (s < 0) || decide (y.2.2.2 > (rd zV u0 s).2.2.2))))
    · exact vf1 l s (i + 1) (by omega) hs
    · exact vf1 l (i : Int) (i + 1) (by omega) (.inr (by omega))
theorem vja (xs : List tVersion.D) (key : ByteArray) (snap : Int) : vct xs key snap < 0 ∨ 0 ≤ vct xs key snap ∧ vct xs key snap < (xs.length : Int) :=
  vf1 xs (-1) 0 (by omega) (.inl (by omega))
def vbh (xs : List tVersion.D) (key : ByteArray) (snap : Int) : ByteArray × Bool :=
  bif decide (vct xs key snap < 0) then (⟨#[]⟩, false) else bif (rd zV xs (vct xs key snap)).2.2.1 then (⟨#[]⟩, false) else ((rd zV xs (vct xs key snap)).2.1, true)
theorem vkd {xs : List tVersion.D} (hl : xs.length ≤ 1048576) (key) (snap) (k) : vfk xs key snap k = k (vbh xs key snap) := by
  have hb := vja xs key snap
  have hz : (Ty.zero tVersion) = zV := rfl
  rw [v1h]
  unfold vvf vbh
  simp only [v5h hl, hz]
  by_cases c : vct xs key snap < 0
  · simp only [c, decide_true, cond_true]
  · simp only [c, decide_false, cond_false]
    rw [if_pos (by omega)]
    cases (rd zV xs (vct xs key snap)).2.2.1
    · simp only [cond_false]; rw [if_pos (by omega)]
    · rfl
theorem v5v {xs : List tVersion.D} (hl : xs.length ≤ 1048576) (key) (snap) (k) : vn5 xs key snap k = k (vbh xs key snap) := by
  have hb := vja xs key snap
  have hz : (Ty.zero tVersion) = zV := rfl
  rw [v0l]
  unfold vv7 vbh
  simp only [v58 hl, hz]
  by_cases c : vct xs key snap < 0
  · simp only [c, decide_true, cond_true]
  · simp only [c, decide_false, cond_false]
    rw [if_pos (by omega)]
    cases (rd zV xs (vct xs key snap)).2.2.1
    · simp only [cond_false]; rw [if_pos (by omega)]
    · rfl
end
end Go.VE
/- Plain laws: where a name or an Id stands; a transaction's text. -/
namespace Go.VE
noncomputable section
set_option linter.unusedVariables false
set_option linter.unusedSimpArgs false
set_option maxRecDepth 100000
theorem vrp {a b : ByteArray} (h : a.data.toList = b.data.toList) : a = b := by
  cases a; cases b; congr 1; exact Array.toList_inj.mp h
theorem vcg {a b : ByteArray} (h : vap a b = true) : a = b := by
  rw [vh2, beq_iff_eq, ByteArray.toList_eq, ByteArray.toList_eq] at h
  exact vrp h
theorem vw2 {s : ByteArray} (h : vg1 s = true) : s.size ≤ 3 := by
  unfold vg1 vhd at h
  simp only [Bool.and_eq_true, decide_eq_true_eq] at h
  omega
end
end Go.VE
/- Plain laws of the draws: each gives, whatever the bytes. -/
namespace Go.VE
noncomputable section
set_option linter.unusedVariables false
set_option linter.unusedSimpArgs false
set_option maxRecDepth 100000
/-- A native program that hands on one value, of which this holds. -/
def Gives {α : Type} (F : (α → Option Res) → Option Res) (Q : α → Prop) : Prop := ∃ v, Q v ∧ ∀ k, F k = k v
theorem vag {α : Type} {v : α} {Q : α → Prop} (h : Q v) : Gives (fun k => k v) Q := ⟨v, h, fun _ => rfl⟩
theorem Gives.bind {α β : Type} {F : (β → Option Res) → Option Res} {R : β → Prop} (hF : Gives F R) {H : β → (α → Option Res) → Option Res} {Q : α → Prop} (hH : ∀ v, R v → Gives (H v) Q) : Gives (fun k => F fun v => H v k) Q := by
  obtain ⟨v, h1, h2⟩ := hF
  obtain ⟨y, h3, h4⟩ := hH v h1
  exact ⟨y, h3, fun k => (h2 _).trans (h4 k)⟩
theorem va5 {α : Type} {c : Bool} {F G : (α → Option Res) → Option Res} {Q : α → Prop} (hF : c = true → Gives F Q) (hG : c = false → Gives G Q) : Gives (fun k => bif c then F k else G k) Q := by
  cases c
  · exact hG rfl
  · exact hF rfl
theorem vb4 {α : Type} {c : Prop} [Decidable c] {F : (α → Option Res) → Option Res} {Q : α → Prop} (hc : c) (hF : Gives F Q) : Gives (fun k => if c then F k else none) Q := by
  simp only [hc, if_true]; exact hF
theorem vr7 {α : Type} {c : Prop} [Decidable c] {F : (α → Option Res) → Option Res} {Q : α → Prop} (hc : ¬ c) (hF : Gives F Q) : Gives (fun k => if c then none else F k) Q := by
  simp only [hc, if_false]; exact hF
theorem vc2 {β γ : Type} {b : β → (β ⊕ γ → Option Res) → Option Res} {x : β} {n : Nat} {Q : γ → Prop} (h : Gives (b x) (fun r => (∀ y, r = .inl y → Gives (vah b n y) Q) ∧ ∀ z, r = .inr z → Q z)) : Gives (vah b (n + 1) x) Q := by
  obtain ⟨v, h1, h2⟩ := h
  cases v with
  | inl y =>
    obtain ⟨w, h3, h4⟩ := h1.1 y rfl
    exact ⟨w, h3, fun k => by rw [vah, h2]; exact h4 k⟩
  | inr z => exact ⟨z, h1.2 z rfl, fun k => by rw [vah, h2]; rfl⟩
theorem vvn {β γ : Type} {Q : γ → Prop} {G : β → Prop} {y : β} (h : G y) : (∀ x, (Sum.inl y : β ⊕ γ) = .inl x → G x) ∧ ∀ z, (Sum.inl y : β ⊕ γ) = .inr z → Q z := ⟨fun _ e => by cases e; exact h, fun _ e => (nomatch e)⟩
theorem vjj {β γ : Type} {Q : γ → Prop} {G : β → Prop} {z : γ} (h : Q z) : (∀ x, (Sum.inr z : β ⊕ γ) = .inl x → G x) ∧ ∀ w, (Sum.inr z : β ⊕ γ) = .inr w → Q w := ⟨fun _ e => (nomatch e), fun _ e => by cases e; exact h⟩
def Dr (l : List Int) (p : Int) : Prop := l.length ≤ 1048576 ∧ 0 ≤ p
theorem v7z {α : Type} {d : α} {xs : List α} {i : Int} (h0 : 0 ≤ i) (h1 : i < (xs.length : Int)) : rd d xs i ∈ xs := by
  have h : i.toNat < xs.length := by omega
  have e : rd d xs i = xs[i.toNat] := by unfold rd; simp [List.getD, List.getElem?_eq_getElem h]
  rw [e]
  exact List.getElem_mem h
theorem vuy (v : BitVec (IntKind.bits .i64)) : 0 ≤ IntKind.wrap .i64 ((v &&& BitVec.ofInt (IntKind.bits .i64) (255 : Int)).toNat : Int) ∧ IntKind.wrap .i64 ((v &&& BitVec.ofInt (IntKind.bits .i64) (255 : Int)).toNat : Int) ≤ 255 := by
  have h : (v &&& BitVec.ofInt (IntKind.bits .i64) (255 : Int)).toNat ≤ 255 := by
    rw [BitVec.toNat_and]
    exact Nat.le_trans Nat.and_le_right (by decide)
  rw [vjw (by omega) (by omega)]
  omega
theorem vz7 {a0 : List Int} (hl : a0.length ≤ 1048576) : ∀ (m : Nat) (i : Nat) (s : Int) (n : Nat), a0.length - i = m → m < n → Gives (vah vii n (a0, s, (i : Int))) (fun z => z.1 = a0) := by
  intro m
  induction m with
  | zero =>
    intro i s n hm hn
    obtain ⟨n, rfl⟩ : ∃ q, n = q + 1 := ⟨n - 1, by omega⟩
    apply vc2
    unfold vii
    refine va5 (fun c => by have c := of_decide_eq_true c; (first | dsimp only at c | skip); omega) (fun _ => vag ?_)
    exact vjj rfl
  | succ m ih =>
    intro i s n hm hn
    obtain ⟨n, rfl⟩ : ∃ q, n = q + 1 := ⟨n - 1, by omega⟩
    apply vc2
    unfold vii
    refine va5 (fun c => va5 (fun _ => ?_) (fun _ => vag ?_)) (fun _ => vag ?_)
    · refine Gives.bind (R := fun z => z.1 = a0 ∧ z.2.2 = ((i + 1 : Nat) : Int)) ?_ (fun z hz => vag ?_)
      · unfold vdd
        refine vb4 ⟨by dsimp only; omega, by have c := of_decide_eq_true c; dsimp only at c ⊢; omega⟩ (vag ⟨rfl, ?_⟩)
        exact vcq (by omega)
      · refine vvn ?_
        rw [hz.1, hz.2]
        exact ih (i + 1) _ n (by omega) (by omega)
    · exact vjj rfl
    · exact vjj rfl
theorem vzk {a0 : List Int} (hl : a0.length ≤ 1048576) : Gives (vl4 a0) (fun z => Dr z.1 z.2.1) := by
  rw [v0z]
  unfold vu7
  refine Gives.bind (vz7 hl a0.length 0 _ Fuel rfl (by have := vde; omega)) (fun z hz => vag ?_)
  rw [hz]
  exact ⟨hl, Int.le_refl _⟩
theorem v7v {l : List Int} {p s : Int} (h : Dr l p) : Gives (vjb l p s) (fun y => 0 ≤ y.1 ∧ y.1 ≤ 255 ∧ Dr y.2.1 y.2.2.1) := by
  rw [vzh]
  unfold vvq
  have h1 := h.1
  have h2 := h.2
  refine va5 (fun c => vb4 ⟨h2, of_decide_eq_true c⟩ (vag ⟨(vuy _).1, (vuy _).2, h1, ?_⟩)) (fun _ => vag ⟨(vuy _).1, (vuy _).2, h⟩)
  have c := of_decide_eq_true c
  show 0 ≤ IntKind.wrap .i64 (p + 1)
  rw [vjw (by omega) (by omega)]
  omega
theorem vjg {n : Int} (h0 : 0 < n) (h1 : n ≤ 256) {l : List Int} {p s : Int} (h : Dr l p) : Gives (vhi n l p s) (fun y => 0 ≤ y.1 ∧ y.1 < n ∧ Dr y.2.1 y.2.2.1) := by
  rw [v00]
  unfold vvy
  refine va5 (fun c => by have c := of_decide_eq_true c; (first | dsimp only at c | skip); omega) (fun _ => va5 (fun _ => ?_) (fun c => absurd h1 (of_decide_eq_false c)))
  refine (v7v h).bind (fun y hy => vr7 (by omega) (vag ⟨?_, ?_, hy.2.2⟩))
  · exact Int.tmod_nonneg _ hy.1
  · exact Int.tmod_lt_of_pos _ h0
theorem vzv {xs : List ByteArray} {Q : ByteArray → Prop} (hx : ∀ x ∈ xs, Q x) (h0 : 0 < xs.length) (h1 : xs.length ≤ 256) {l : List Int} {p s : Int} (h : Dr l p) : Gives (vo0 xs l p s) (fun y => Q y.1 ∧ Dr y.2.1 y.2.2.1) := by
  rw [vym]
  unfold vu9
  refine (vjg (by omega) (by omega) h).bind (fun y hy => vb4 ⟨hy.1, hy.2.1⟩ (vag ⟨hx _ (v7z hy.1 hy.2.1), hy.2.2⟩))
theorem v7l {l : List Int} {p s : Int} (h : Dr l p) : Gives (vls l p s) (fun y => y.1.size ≤ 20 ∧ Dr y.2.1 y.2.2.1) := by
  rw [vvz]
  unfold vsu
  exact (vzv (Q := fun x => x.size ≤ 20) (by decide) (by decide) (by decide) h).bind (fun y hy => vag hy)
theorem v6x {n : Int} (h0 : 0 < n) (h1 : n ≤ 256) {l : List Int} {p s : Int} (h : Dr l p) : Gives (vrc n l p s) (fun y => Dr y.2.1 y.2.2.1) := by
  rw [vz6]
  unfold vvs
  exact (vjg h0 h1 h).bind (fun y hy => vag hy.2.2)
theorem vy6 {n c : Int} (h1 : n ≤ 1000) : ∀ (m : Nat) (i : Int) (x : List Int) (q : Nat), 0 ≤ i → n - i ≤ m → m < q → (x.length : Int) = n → Gives (vah vik q (n, c, i, x)) (fun z => (z.2.2.2.length : Int) = n) := by
  intro m
  induction m with
  | zero =>
    intro i x q h0 hm hq hx
    obtain ⟨q, rfl⟩ : ∃ r, q = r + 1 := ⟨q - 1, by omega⟩
    apply vc2
    unfold vik
    exact va5 (fun c => by have c := of_decide_eq_true c; (first | dsimp only at c | skip); omega) (fun _ => vag (vjj hx))
  | succ m ih =>
    intro i x q h0 hm hq hx
    obtain ⟨q, rfl⟩ : ∃ r, q = r + 1 := ⟨q - 1, by omega⟩
    apply vc2
    unfold vik
    refine va5 (fun c => ?_) (fun _ => vag (vjj hx))
    have c := of_decide_eq_true c
    dsimp only at c
    refine vb4 ⟨h0, by dsimp only; omega⟩ (vag (vvn ?_))
    simp only [vjw (show -9223372036854775808 ≤ i + 1 by omega) (show i + 1 < 9223372036854775808 by omega)]
    exact ih (i + 1) _ q (by omega) (by omega) (by omega) (by rw [List.length_set]; exact hx)
theorem vrz : ∀ (l : List Int) (f : Int → UInt8) (s : ByteArray), (l.foldl (fun s n => s.push (f n)) s).size = s.size + l.length
  | [], f, s => rfl
  | n :: l, f, s => by
    rw [List.foldl_cons, vrz l f, ByteArray.size_push, List.length_cons]; omega
theorem v77 {n c : Int} (h0 : 0 ≤ n) (h1 : n ≤ 20) : Gives (vrs n c) (fun y => y.size ≤ 20) := by
  rw [vz0]
  unfold vwe
  refine vb4 ⟨h0, Int.le_refl _, by simp only [VE.maxLen]; omega⟩ ((vy6 (by omega) 20 0 _ Fuel (by omega) (by omega) (by have := vde; omega) (by rw [List.length_replicate]; omega)).bind (fun z hz => vag ?_))
  unfold vj5
  rw [vrz _ (fun n => UInt8.ofNat n.toNat)]
  show 0 + _ ≤ 20
  omega
theorem v36 {T : Ty} {c : Nat} : ∀ {l : List T.D}, (∀ y ∈ l, T.wt y ≤ c) → wtL T l ≤ c * l.length
  | [], _ => by simp [wtL]
  | y :: l, h => by
    have h1 := h y (by simp)
    have h2 := v36 (l := l) (fun z hz => h z (List.mem_cons_of_mem y hz))
    simp only [wtL, List.length_cons, Nat.mul_add]; omega
theorem v6n (l : List Int) (k) : vnw l k = k (decide ((l.length : Int) > 1048576)) := by rw [vy9]; rfl
end
end Go.VE
/- Plain laws: versions, bases. -/
namespace Go.VE
noncomputable section
set_option linter.unusedVariables false
set_option linter.unusedSimpArgs false
set_option maxRecDepth 100000
def vb5 (v : tVersion.D) : Bool := vg1 v.1 && decide ((v.2.1.size : Int) ≤ 12) && (!v.2.2.1 || vap v.2.1 ⟨#[]⟩) && vhd v.2.2.2 1 9999
def vbs (x y : tVersion.D) : Bool := vab x.1 y.1 || (vap x.1 y.1 && decide (x.2.2.2 < y.2.2.2))
def vfz : Option tVersion.D → List tVersion.D → Bool
  | _, [] => true
  | p, y :: l => vb5 y && (match p with | none => true | some x => vbs x y) && vfz (some y) l
def vdk (l : List tVersion.D) : Bool := vfz none l && decide ((l.length : Int) ≤ 120)
def cmpS (x y : ByteArray) : Int := bif vab x y then -1 else bif !(vab x y || vap x y) then 1 else 0
def cmpI (x y : Int) : Int := bif decide (x < y) then -1 else bif decide (x > y) then 1 else 0
def cmpV (x y : tVersion.D) : Int := bif cmpS x.1 y.1 != 0 then cmpS x.1 y.1 else cmpI x.2.2.2 y.2.2.2
theorem v5r (x y) (k) : vq7 x y k = k (cmpS x y) := by
  rw [v0x]
  unfold vvk cmpS
  rw [v0b]
  unfold vvw
  simp only [vbm, Bool.not_true, cond_false]
  cases vab x y <;> cases vap x y <;> rfl
theorem v5p (x y) (k) : vrb x y k = k (cmpI x y) := by
  rw [vzp]
  unfold vvm cmpI
  rw [vz8]
  unfold vwd
  simp only [bne_self_eq_false, cond_false]
  cases decide (x < y) <;> cases decide (x > y) <;> rfl
theorem v0h (x y : tVersion.D) (k) : vjr x y k = k (cmpV x y) := by
  rw [vyv]
  unfold vvl cmpV
  simp only [v5r, v5p]
  cases cmpS x.1 y.1 != 0 <;> rfl
theorem v3a (x y : tVersion.D) : decide (cmpV x y ≥ 0) = !vbs x y := by
  unfold cmpV vbs cmpS cmpI
  cases h1 : vab x.1 y.1
  · cases h2 : vap x.1 y.1
    · simp
    · simp only [cond_false, Bool.or_true, Bool.not_true, bne_self_eq_false, Bool.false_or, Bool.true_and]
      by_cases h3 : x.2.2.2 < y.2.2.2
      · simp [h3]
      · by_cases h4 : x.2.2.2 > y.2.2.2
        · simp [h3, h4]
        · simp [h3, h4]
  · simp
theorem vnu {u0 : List tVersion.D} (hu : ∀ y ∈ u0, tVersion.wt y ≤ 1048576) (hl : u0.length ≤ 1048576) {u1 u2} : ∀ (l : List tVersion.D) (i : Nat), u0.drop i = l → ∃ j : Int, ∀ k,
    vem u0 u1 u2 l i k = k (bif vfz (if i = 0 then none else some (u0.getD (i - 1) (Ty.zero tVersion))) l then .inr j else .inl (false, j))
  | [], i, _ => ⟨_, fun k => rfl⟩
  | y :: l, i, h => by
    obtain ⟨j, hj⟩ := vnu hu hl (u1 := u1) (u2 := u2) l (i + 1) (vbb h)
    have hlt := vep h
    have hy := (vbx h).2 (Ty.zero tVersion)
    have hyw := hu y (vs3 h)
    rw [vq6] at hyw
    rw [if_neg (by omega), show i + 1 - 1 = i by omega, hy] at hj
    simp only [vem, v6b (show y.1.size ≤ 1048576 by omega), vzi, v0h, v3a, hj, vfz, vb5]
    have hsz : decide ((y.2.1.size : Int) > 12) = !decide ((y.2.1.size : Int) ≤ 12) := by
      by_cases h : (y.2.1.size : Int) ≤ 12
      · simp [h]
      · simp [h]; omega
    rw [hsz]
    by_cases hi : i = 0
    · subst hi
      simp only [if_pos, show ¬ ((0 : Nat) : Int) > 0 by omega, decide_false, cond_false, Bool.and_true]
      cases vg1 y.1 <;> cases decide ((y.2.1.size : Int) ≤ 12) <;> cases y.2.2.1 <;> cases vap y.2.1 ⟨#[]⟩ <;> cases vhd y.2.2.2 1 9999 <;> first | (refine ⟨((0 : Nat) : Int), fun k => ?_⟩; simp; done) | (refine ⟨j, fun k => ?_⟩; simp; done)
    · have hw : IntKind.wrap .i64 ((i : Int) - 1) = ((i - 1 : Nat) : Int) := by rw [vjw (by omega) (by omega)]; omega
      have hrd : rd (Ty.zero tVersion) u0 ((i - 1 : Nat) : Int) = u0.getD (i - 1) (Ty.zero tVersion) := rfl
      simp only [if_neg hi, show (i : Int) > 0 by omega, decide_true, cond_true, hw, hrd, if_pos (show 0 ≤ ((i - 1 : Nat) : Int) ∧ ((i - 1 : Nat) : Int) < (u0.length : Int) by omega)]
      cases vg1 y.1 <;> cases decide ((y.2.1.size : Int) ≤ 12) <;> cases y.2.2.1 <;> cases vap y.2.1 ⟨#[]⟩ <;> cases vhd y.2.2.2 1 9999 <;> cases vbs (u0.getD (i - 1) (Ty.zero tVersion)) y <;> first | (refine ⟨(i : Int), fun k => ?_⟩; simp; done) | (refine ⟨j, fun k => ?_⟩; simp; done)
theorem v6o {x : List tVersion.D} (hx : (Ty.slice tVersion).wt x ≤ 1048576) (k) : vlo x k = k (vdk x) := by
  have hl := v64 hx
  rw [v8l (by omega)]
  unfold vzy vdk
  obtain ⟨j, hj⟩ := vnu (u0 := x) (fun y hy => vyj hy hx) hl (u1 := false) (u2 := x) x 0 rfl
  rw [hj]
  simp only [if_true]
  cases vfz none x <;> rfl
end
end Go.VE
/- Plain laws: keys in order; what a scan sees. -/
namespace Go.VE
noncomputable section
set_option linter.unusedVariables false
set_option linter.unusedSimpArgs false
set_option maxRecDepth 100000
/-! ### the order of texts -/
theorem vh4 (x y : ByteArray) : vab x y = decide (x.data.toList < y.data.toList) := by
  rw [veg, ByteArray.toList_eq, ByteArray.toList_eq]
  exact Go.Proofs.bytesLess_eq _ _
theorem vcb (x : ByteArray) : vab x x = false := by
  rw [vh4]; exact decide_eq_false (List.lt_irrefl _)
theorem vdl {x y z : ByteArray} (h1 : vab x y = true) (h2 : vab y z = true) : vab x z = true := by
  rw [vh4] at *
  exact decide_eq_true (List.lt_trans (of_decide_eq_true h1) (of_decide_eq_true h2))
theorem vt7 {x y : ByteArray} (h : vab x y = true) : vab y x = false := by
  cases h2 : vab y x
  · rfl
  · have := vdl h h2
    rw [vcb] at this
    cases this
theorem vew {x y : ByteArray} (h1 : vab x y = false) (h2 : vab y x = false) : x = y := by
  rw [vh4] at *
  have a := List.not_lt.1 (of_decide_eq_false h1)
  have b := List.not_lt.1 (of_decide_eq_false h2)
  exact vrp (List.le_antisymm b a)
theorem voj (x y : ByteArray) : vap x y = decide (x = y) := by
  cases h : vap x y
  · symm; apply decide_eq_false; intro e; rw [e, vbm] at h; cases h
  · symm; exact decide_eq_true (vcg h)
def Asc (l : List ByteArray) : Prop := l.Pairwise fun a b => vab a b = true
theorem vt6 : ∀ {l m : List ByteArray}, Asc l → Asc m → (∀ x, x ∈ l ↔ x ∈ m) → l = m
  | [], [], _, _, _ => rfl
  | [], b :: m, _, _, h => by have := (h b).2 (by simp); cases this
  | a :: l, [], _, _, h => by have := (h a).1 (by simp); cases this
  | a :: l, b :: m, hl, hm, h => by
    obtain ⟨h1, h2⟩ := List.pairwise_cons.1 hl
    obtain ⟨h3, h4⟩ := List.pairwise_cons.1 hm
    have hab : a = b := by
      rcases List.mem_cons.1 ((h a).1 (by simp)) with e | e
      · exact e
      · rcases List.mem_cons.1 ((h b).2 (by simp)) with e2 | e2
        · exact e2.symm
        · have x1 := h3 a e
          have x2 := h1 b e2
          rw [vt7 x1] at x2
          cases x2
    subst hab
    rw [vt6 h2 h4 (fun x => ⟨fun hx => by
      rcases List.mem_cons.1 ((h x).1 (by simp [hx])) with e | e
      · subst e; have := h1 x hx; rw [vcb] at this; cases this
      · exact e, fun hx => by
      rcases List.mem_cons.1 ((h x).2 (by simp [hx])) with e | e
      · subst e; have := h3 x hx; rw [vcb] at this; cases this
      · exact e⟩)]
def ddT (p : ByteArray) : List ByteArray → List ByteArray
  | [] => []
  | y :: l => bif vap y p then ddT y l else y :: ddT y l
def dd : List ByteArray → List ByteArray
  | [] => []
  | a :: l => a :: ddT a l
theorem v0g : ∀ (l : List ByteArray) (p : ByteArray), (p :: l).Pairwise (fun a b => vab b a = false) → Asc (p :: ddT p l) ∧ ∀ x, x ∈ p :: ddT p l ↔ x ∈ p :: l
  | [], p, _ => ⟨List.pairwise_singleton _ _, fun x => Iff.rfl⟩
  | y :: l, p, h => by
    obtain ⟨h1, h2⟩ := List.pairwise_cons.1 h
    obtain ⟨i1, i2⟩ := v0g l y h2
    simp only [ddT]
    cases he : vap y p
    · have hne : y ≠ p := fun e => by rw [e, vbm] at he; cases he
      have hlt : vab p y = true := by
        cases hh : vab p y
        · exact absurd (vew (h1 y (by simp)) hh) hne
        · rfl
      refine ⟨List.pairwise_cons.2 ⟨fun x hx => ?_, i1⟩, fun x => ?_⟩
      · rcases List.mem_cons.1 hx with e | e
        · rw [e]; exact hlt
        · exact vdl hlt ((List.pairwise_cons.1 i1).1 x e)
      · simp only [cond_false, List.mem_cons]
        have := i2 x
        simp only [List.mem_cons] at this
        rw [this]
    · have e := vcg he
      subst e
      refine ⟨i1, fun x => ?_⟩
      simp only [cond_true]
      rw [i2 x]
      simp
theorem v4d {l : List ByteArray} (h : l.Pairwise fun a b => vab b a = false) : Asc (dd l) ∧ ∀ x, x ∈ dd l ↔ x ∈ l := by
  cases l with
  | nil => exact ⟨List.Pairwise.nil, fun x => Iff.rfl⟩
  | cons a l => exact v0g l a h
theorem vsk (xs : List ByteArray) : (vgf xs).Pairwise (fun a b => vab b a = false) ∧ ∀ x, x ∈ vgf xs ↔ x ∈ xs := by
  unfold vgf
  constructor
  · rw [List.pairwise_map]
    have := List.pairwise_mergeSort (le := fun x y : List UInt8 => decide (x ≤ y)) (fun a b c h1 h2 => decide_eq_true (List.le_trans (of_decide_eq_true h1) (of_decide_eq_true h2))) (fun a b => by
      rcases List.le_total a b with h | h
      · simp [h]
      · simp [h]) (xs.map fun x => x.data.toList)
    refine this.imp ?_
    intro a b hab
    rw [vh4]
    exact decide_eq_false (List.not_lt.2 (of_decide_eq_true hab))
  · intro x
    have hp := List.mergeSort_perm (xs.map fun x => x.data.toList) (fun x y => decide (x ≤ y))
    simp only [List.mem_map, hp.mem_iff]
    constructor
    · rintro ⟨l, ⟨y, hy, rfl⟩, rfl⟩
      exact hy
    · intro hx
      exact ⟨x.data.toList, ⟨x, hx, rfl⟩, rfl⟩
def insK (out : List ByteArray) (k : ByteArray) : List ByteArray := (out.filter fun y => vab y k) ++ k :: out.filter fun y => !(vab y k || vap y k)
theorem v25 {out : List ByteArray} (h : Asc out) (k : ByteArray) : Asc (insK out k) ∧ ∀ x, x ∈ insK out k ↔ x = k ∨ x ∈ out := by
  have gt : ∀ y, (!(vab y k || vap y k)) = true → vab k y = true := by
    intro y hy
    simp only [Bool.not_eq_true', Bool.or_eq_false_iff] at hy
    cases hh : vab k y
    · have := vew hy.1 hh
      rw [this, vbm] at hy
      cases hy.2
    · rfl
  constructor
  · unfold insK Asc
    rw [List.pairwise_append]
    refine ⟨List.Pairwise.filter _ h, List.pairwise_cons.2 ⟨fun x hx => gt x (List.mem_filter.1 hx).2, List.Pairwise.filter _ h⟩, fun a ha b hb => ?_⟩
    have ha' := (List.mem_filter.1 ha).2
    rcases List.mem_cons.1 hb with e | e
    · rw [e]; exact ha'
    · exact vdl ha' (gt b (List.mem_filter.1 e).2)
  · intro x
    unfold insK
    simp only [List.mem_append, List.mem_cons, List.mem_filter]
    constructor
    · rintro (⟨h1, _⟩ | h1 | ⟨h1, _⟩)
      · exact .inr h1
      · exact .inl h1
      · exact .inr h1
    · rintro (h1 | h1)
      · exact .inr (.inl h1)
      · cases h2 : vab x k
        · cases h3 : vap x k
          · exact .inr (.inr ⟨h1, by simp [h2, h3]⟩)
          · exact .inr (.inl (vcg h3))
        · exact .inl ⟨h1, rfl⟩
def vma (r : tRange.D) : List tVersion.D → List ByteArray → List ByteArray
  | [], out => out
  | v :: l, out => vma r l (bif vdo r v.1 then insK out v.1 else out)
theorem vfl (r : tRange.D) : ∀ (l : List tVersion.D) (out : List ByteArray), Asc out → Asc (vma r l out) ∧ ∀ x, x ∈ vma r l out ↔ x ∈ out ∨ (vdo r x = true ∧ x ∈ l.map fun v => v.1)
  | [], out, h => ⟨h, fun x => by simp [vma]⟩
  | v :: l, out, h => by
    simp only [vma]
    cases hr : vdo r v.1
    · obtain ⟨i1, i2⟩ := vfl r l out h
      refine ⟨i1, fun x => ?_⟩
      rw [cond_false, i2 x]
      simp only [List.map_cons, List.mem_cons]
      constructor
      · rintro (a | ⟨a, b⟩)
        · exact .inl a
        · exact .inr ⟨a, .inr b⟩
      · rintro (a | ⟨a, b | b⟩)
        · exact .inl a
        · rw [b, hr] at a; cases a
        · exact .inr ⟨a, b⟩
    · obtain ⟨j1, j2⟩ := v25 h v.1
      obtain ⟨i1, i2⟩ := vfl r l (insK out v.1) j1
      refine ⟨i1, fun x => ?_⟩
      rw [cond_true, i2 x, j2 x]
      simp only [List.map_cons, List.mem_cons]
      constructor
      · rintro ((a | a) | ⟨a, b⟩)
        · exact .inr ⟨by rw [a]; exact hr, .inl a⟩
        · exact .inl a
        · exact .inr ⟨a, .inr b⟩
      · rintro (a | ⟨a, b | b⟩)
        · exact .inl (.inr a)
        · exact .inl (.inl b)
        · exact .inr ⟨a, b⟩
def vxz (l : List tVersion.D) : List ByteArray := dd (vgf (l.map fun v => v.1))
theorem vz3 (r : tRange.D) (l : List tVersion.D) : (vxz l).filter (fun k => vdo r k) = vma r l [] := by
  obtain ⟨s1, s2⟩ := vsk (l.map fun v => v.1)
  obtain ⟨d1, d2⟩ := v4d s1
  obtain ⟨k1, k2⟩ := vfl r l [] List.Pairwise.nil
  refine vt6 (List.Pairwise.filter _ d1) k1 (fun x => ?_)
  rw [List.mem_filter, k2 x]
  unfold vxz
  rw [d2 x, s2 x]
  constructor
  · rintro ⟨a, b⟩; exact .inr ⟨b, a⟩
  · rintro (a | ⟨a, b⟩)
    · cases a
    · exact ⟨b, a⟩
end
end Go.VE
/- Plain laws: scans. -/
namespace Go.VE
noncomputable section
set_option linter.unusedVariables false
set_option linter.unusedSimpArgs false
set_option maxRecDepth 100000
theorem vjv {α : Type} (y : α) : ∀ (S : List α) (i : Nat), i < S.length → (S.set i y).take (i + 1) = S.take i ++ [y]
  | [], i, h => by simp at h
  | a :: S, 0, h => by simp
  | a :: S, i + 1, h => by
    have := vjv y S i (by simpa using h)
    simp only [List.set_cons_succ, List.take_succ_cons, this, List.cons_append]
theorem vmw {α : Type} (y : α) : ∀ (S : List α) (i n : Nat), i < n → (S.set i y).drop n = S.drop n
  | [], i, n, h => by simp
  | a :: S, 0, n + 1, h => by simp
  | a :: S, i + 1, n + 1, h => by simpa using vmw y S i n (by omega)
  | a :: S, i, 0, h => by omega
theorem vj2 {st : Nat} : ∀ (l S : List ByteArray) (i k2 q : Nat) (p : ByteArray), S.drop (st + k2) = l → 1 ≤ k2 → i + 1 ≤ st + k2 → st + k2 ≤ S.length → S.length ≤ 3000000 → l.length < q → S.getD (st + (k2 - 1)) (Ty.zero .str) = p →
    ∃ (i' : Nat) (k' : Int) (S' : List ByteArray), S'.length = S.length ∧ i' ≤ S'.length ∧ S'.take i' = S.take i ++ ddT p l ∧ ∀ K, vah vgm q ((i : Int), st, (k2 : Int), S) K = K ((i' : Int), st, k', S')
  | l, S, i, k2, 0, p, _, _, _, _, _, h, _ => by omega
  | [], S, i, k2, q + 1, p, hd, h1, hi, hs, hS, _, hp => by
    have hge : S.length ≤ st + k2 := by
      have := congrArg List.length hd
      rw [List.length_drop] at this
      simp at this
      omega
    refine ⟨i, (k2 : Int), S, rfl, by omega, by simp [ddT], fun K => ?_⟩
    simp only [vah, vgm, show ¬ (k2 : Int) < (S.length : Int) - (st : Int) by omega, decide_false, cond_false, Sum.elim_inr]
  | y :: l, S, i, k2, q + 1, p, hd, h1, hi, hs, hS, hq, hp => by
    have hlt := vep hd
    have hy : S.getD (st + k2) (Ty.zero .str) = y := (vbx hd).2 _
    have w1 : IntKind.wrap .i64 ((k2 : Int) - 1) = ((k2 - 1 : Nat) : Int) := by rw [vjw (by omega) (by omega)]; omega
    have w2 : IntKind.wrap .i64 ((k2 : Int) + 1) = ((k2 + 1 : Nat) : Int) := vcq (by omega)
    have w3 : IntKind.wrap .i64 ((i : Int) + 1) = ((i + 1 : Nat) : Int) := vcq (by omega)
    have c1 : (k2 : Int) < (S.length : Int) - (st : Int) := by omega
    have c2 : (0 : Int) ≤ (k2 : Int) := by omega
    have c3 : (0 : Int) ≤ ((k2 - 1 : Nat) : Int) := by omega
    have c4 : ((k2 - 1 : Nat) : Int) < (S.length : Int) - (st : Int) := by omega
    have c5 : (0 : Int) ≤ (i : Int) := by omega
    have c6 : (i : Int) < (S.length : Int) := by omega
    cases he : vap y p
    · obtain ⟨i', k', S', e1, e2, e3, e4⟩ := vj2 (st := st) l (S.set i y) (i + 1) (k2 + 1) q y (by rw [vmw y S i _ (by omega)]; exact vbb hd) (by omega) (by omega) (by rw [List.length_set]; omega) (by rw [List.length_set]; omega) (by simpa using hq)
        (by rw [show st + (k2 + 1 - 1) = st + k2 by omega]; rw [← hy]; simp only [List.getD, List.getElem?_set_ne (show i ≠ st + k2 by omega)])
      refine ⟨i', k', S', by rw [e1, List.length_set], e2, ?_, fun K => ?_⟩
      · rw [e3, vjv y S i (by omega), List.append_assoc]
        simp only [ddT, he, cond_false, List.singleton_append]
      · simp only [vah, vgm, c1, c2, c3, c4, c5, c6, w1, decide_true, cond_true, and_self, if_true, Int.toNat_natCast, hy, hp, he, Bool.not_false, Sum.elim_inl, w2, w3]
        exact e4 K
    · have hyp := vcg he
      obtain ⟨i', k', S', e1, e2, e3, e4⟩ := vj2 (st := st) l S i (k2 + 1) q y (vbb hd) (by omega) (by omega) (by omega) hS (by simpa using hq) (by rw [show st + (k2 + 1 - 1) = st + k2 by omega]; exact hy)
      refine ⟨i', k', S', e1, e2, ?_, fun K => ?_⟩
      · rw [e3]
        simp only [ddT, he, cond_true]
      · simp only [vah, vgm, c1, c2, c3, c4, w1, decide_true, cond_true, and_self, if_true, Int.toNat_natCast, hy, hp, he, Bool.not_true, cond_false, Sum.elim_inl, w2]
        exact e4 K
theorem vov {T : List ByteArray} (hT : T.length ≤ 3000000) {r : List ByteArray} : ∀ (l : List ByteArray) (i q : Nat), T.drop i = l → 1 ≤ i → i ≤ T.length → l.length < q →
    (T = T.take i ++ ddT (T.getD (i - 1) (Ty.zero .str)) l ∧ ∃ j : Int, ∀ K, vah vff q ((i : Int), T, r) K = K (.inl (j, T, r))) ∨
      ∃ j : Int, ∀ K, vah vff q ((i : Int), T, r) K = K (.inr (j, T.take i ++ ddT (T.getD (i - 1) (Ty.zero .str)) l))
  | l, i, 0, _, _, _, h => by omega
  | [], i, q + 1, hd, h1, hi, _ => by
    have hge := vcx hd
    left
    have : T.take i = T := List.take_of_length_le (by omega)
    refine ⟨by rw [this]; simp [ddT], (i : Int), fun K => ?_⟩
    simp only [vah, vff, hge, decide_false, cond_false, Sum.elim_inr]
  | y :: l, i, q + 1, hd, h1, hi, hq => by
    have hlt := vep hd
    have hy : T.getD i (Ty.zero .str) = y := (vbx hd).2 _
    have w1 : IntKind.wrap .i64 ((i : Int) - 1) = ((i - 1 : Nat) : Int) := by rw [vjw (by omega) (by omega)]; omega
    have w2 : IntKind.wrap .i64 ((i : Int) + 1) = ((i + 1 : Nat) : Int) := vcq (by omega)
    have c1 : (i : Int) < (T.length : Int) := by omega
    have c2 : (0 : Int) ≤ (i : Int) := by omega
    have c3 : (0 : Int) ≤ ((i - 1 : Nat) : Int) := by omega
    have c4 : ((i - 1 : Nat) : Int) < (T.length : Int) := by omega
    have c5 : (i : Int) ≤ (T.length : Int) := by omega
    generalize hp : T.getD (i - 1) (Ty.zero .str) = p
    cases he : vap y p
    · have htk : T.take (i + 1) = T.take i ++ [y] := by
        rw [List.take_succ_eq_append_getElem hlt]
        congr 2
        rw [← hy]
        simp [List.getD, hlt]
      have ih := vov hT (r := r) l (i + 1) q (vbb hd) (by omega) (by omega) (by simpa using hq)
      rw [show i + 1 - 1 = i by omega, hy, htk, List.append_assoc, List.singleton_append] at ih
      have hdd : ddT p (y :: l) = y :: ddT y l := by simp only [ddT, he, cond_false]
      rw [hdd]
      rcases ih with ⟨e, j, hj⟩ | ⟨j, hj⟩
      · left
        refine ⟨e, j, fun K => ?_⟩
        simp only [vah, vff, c1, c2, c3, c4, w1, decide_true, cond_true, and_self, if_true, Int.toNat_natCast, hy, hp, he, cond_false, Sum.elim_inl, w2]
        exact hj K
      · right
        refine ⟨j, fun K => ?_⟩
        simp only [vah, vff, c1, c2, c3, c4, w1, decide_true, cond_true, and_self, if_true, Int.toNat_natCast, hy, hp, he, cond_false, Sum.elim_inl, w2]
        exact hj K
    · right
      obtain ⟨i', k', S', e1, e2, e3, e4⟩ := vj2 (st := i) l T i 1 Fuel y (vbb hd) (by omega) (by omega) (by omega) hT (by have := vde; have := congrArg List.length hd; rw [List.length_drop] at this; simp only [List.length_cons] at this; omega) (by rw [show i + (1 - 1) = i by omega]; exact hy)
      have hdd : ddT p (y :: l) = ddT y l := by simp only [ddT, he, cond_true]
      rw [hdd]
      refine ⟨(i' : Int), fun K => ?_⟩
      have e4' : ∀ K, vah vgm Fuel ((i : Int), i, (1 : Int), T) K = K ((i' : Int), i, k', S') := e4
      have d1 : (0 : Int) ≤ (i' : Int) := by omega
      have d2 : (i' : Int) ≤ (S'.length : Int) := by omega
      have d3 : (i' : Int) ≤ ((S'.take i' ++ List.replicate (S'.length - i') (Ty.zero .str)).length : Int) := by
        rw [List.length_append, List.length_take, List.length_replicate]; omega
      have d4 : (S'.take i' ++ List.replicate (S'.length - i') (Ty.zero .str)).take i' = S'.take i' := by
        rw [List.take_append_of_le_length (by rw [List.length_take]; omega), List.take_take, Nat.min_self]
      rw [← e3]
      simp only [vah, vff, c1, c2, c3, c4, c5, w1, decide_true, cond_true, and_self, if_true, Int.toNat_natCast, hy, hp, he, e4', d1, d2, d3, d4, Sum.elim_inr]
theorem vkc {T : List ByteArray} (hT : T.length ≤ 3000000) : (∀ k, vl5 T k = k (.inl (dd T))) ∨ (∀ k, vl5 T k = k (.inr (dd T))) := by
  rw [vy5]
  unfold vvt
  match T, hT with
  | [], _ => exact .inl fun k => rfl
  | [a], _ => exact .inl fun k => rfl
  | a :: b :: l, hT =>
    have hn : ¬ (((a :: b :: l).length : Int) < 2) := by simp only [List.length_cons]; omega
    have h := vov hT (r := []) (b :: l) 1 Fuel rfl (by omega) (by simp) (by have := vde; simp only [List.length_cons] at hT ⊢; omega)
    have hd : (a :: b :: l).take 1 ++ ddT ((a :: b :: l).getD (1 - 1) (Ty.zero .str)) (b :: l) = dd (a :: b :: l) := rfl
    rw [hd] at h
    have h1 : ((1 : Nat) : Int) = 1 := rfl
    rw [h1] at h
    simp only [hn, decide_false, cond_false]
    rcases h with ⟨e, j, hj⟩ | ⟨j, hj⟩
    · left
      intro k
      rw [hj]
      simp only [Sum.elim_inl]
      rw [← e]
    · right
      intro k
      rw [hj]
      rfl
theorem vnx {u0} : ∀ (l : List tVersion.D) (s : List ByteArray) (i : Nat), s.length + l.length ≤ 3000000 → ∃ j : Int, ∀ k, vgl u0 l s i k = k (j, s ++ l.map fun v => v.1)
  | [], s, i, _ => ⟨_, fun k => by simp [vgl]; rfl⟩
  | y :: l, s, i, h => by
    simp only [List.length_cons] at h
    obtain ⟨j, hj⟩ := vnx (u0 := u0) l (s ++ [y.1]) (i + 1) (by simp; omega)
    refine ⟨j, fun k => ?_⟩
    have hm : s.length + [y.1].length ≤ VE.maxLen := by show _ ≤ 4294967296; simp; omega
    simp only [vgl, if_pos hm, hj, List.map_cons, List.append_assoc, List.singleton_append]
theorem v6g {l : List tVersion.D} (hl : l.length ≤ 1048576) (k) : vny l k = k (vxz l) := by
  rw [v6u (by omega)]
  unfold vzs
  obtain ⟨j, hj⟩ := vnx (u0 := l) l [] 0 (by simp; omega)
  have hs : ∀ xs : List ByteArray, xs.length ≤ 1000000000 → ∀ k, vot xs k = k (vgf xs) := fun xs h k => by
    rw [vzq]
    unfold vr6
    rw [if_pos h]
  rw [hj]
  simp only [List.nil_append]
  rw [hs _ (by rw [List.length_map]; omega)]
  rcases vkc (T := vgf (l.map fun v => v.1)) (by rw [vey, List.length_map]; omega) with h | h <;> rw [h] <;> rfl
end
end Go.VE
/- Plain laws: what scans see. -/
namespace Go.VE
noncomputable section
set_option linter.unusedVariables false
set_option linter.unusedSimpArgs false
set_option maxRecDepth 100000
/-- An ascending list of keys out of others is no longer than they. -/
theorem vnk : ∀ {l m : List ByteArray}, Asc l → (∀ x ∈ l, x ∈ m) → l.length ≤ m.length := by
  intro l m h hm
  have nd : l.Nodup := by
    refine List.Pairwise.imp ?_ h
    intro a b hab e
    rw [e, vcb] at hab
    cases hab
  exact List.Nodup.length_le_of_subset nd hm
def seeF (l : List tVersion.D) (snap : Int) (k : ByteArray) : Option tRange.D := bif (vbh l k snap).2 then some (k, (vbh l k snap).1) else none
def seeI (l : List tVersion.D) (r : tRange.D) (snap : Int) (k : ByteArray) : Option tRange.D := bif (vbh l k snap).2 && vdo r k then some (k, (vbh l k snap).1) else none
theorem vjt {u0 : List tVersion.D} (hu : u0.length ≤ 1048576) {snap : Int} {r : tRange.D} {ks : List ByteArray} (hk : ks.length ≤ 1048576) : ∀ (l : List ByteArray) (out : List tRange.D) (i q : Nat), ks.drop i = l → l.length < q → out.length + l.length ≤ 3000000 → ∃ j : Int, ∀ K,
    vah vgc q (u0, snap, (ks.length : Int), (i : Int), r.1, r.2, out, ks) K = K (u0, snap, (ks.length : Int), j, r.1, r.2, out ++ l.filterMap (seeI u0 r snap), ks)
  | l, out, i, 0, _, h, _ => by omega
  | [], out, i, q + 1, hd, _, _ => by
    have hge := vcx hd
    refine ⟨(i : Int), fun K => ?_⟩
    simp only [vah, vgc, hge, decide_false, cond_false, Sum.elim_inr, List.filterMap_nil, List.append_nil]
  | y :: l, out, i, q + 1, hd, hq, ha => by
    simp only [List.length_cons] at ha
    have hlt := vep hd
    have hy : ks.getD i (Ty.zero .str) = y := (vbx hd).2 _
    have w : IntKind.wrap .i64 ((i : Int) + 1) = ((i + 1 : Nat) : Int) := vcq (by omega)
    have c1 : (i : Int) < (ks.length : Int) := by omega
    have c2 : (0 : Int) ≤ (i : Int) := by omega
    have hin : ∀ k, vnj (r.1, r.2) y k = k (vdo r y) := fun k => v6c r y k
    cases he : (vbh u0 y snap).2
    · obtain ⟨j, hj⟩ := vjt hu (snap := snap) (r := r) hk l out (i + 1) q (vbb hd) (by simpa using hq) (by omega)
      refine ⟨j, fun K => ?_⟩
      simp only [vah, vgc, c1, c2, decide_true, cond_true, and_self, if_true, Int.toNat_natCast, hy, vkd hu, he, cond_false, Sum.elim_inl, w, List.filterMap_cons, seeI, Bool.false_and]
      exact hj K
    · cases hr : vdo r y
      · obtain ⟨j, hj⟩ := vjt hu (snap := snap) (r := r) hk l out (i + 1) q (vbb hd) (by simpa using hq) (by omega)
        refine ⟨j, fun K => ?_⟩
        simp only [vah, vgc, c1, c2, decide_true, cond_true, and_self, if_true, Int.toNat_natCast, hy, vkd hu, he, hin, hr, cond_false, Sum.elim_inl, w, List.filterMap_cons, seeI, Bool.true_and]
        exact hj K
      · have hm : out.length + [(y, (vbh u0 y snap).1)].length ≤ VE.maxLen := by show _ ≤ 4294967296; simp; omega
        obtain ⟨j, hj⟩ := vjt hu (snap := snap) (r := r) hk l (out ++ [(y, (vbh u0 y snap).1)]) (i + 1) q (vbb hd) (by simpa using hq) (by simp; omega)
        refine ⟨j, fun K => ?_⟩
        simp only [vah, vgc, c1, c2, decide_true, cond_true, and_self, if_true, Int.toNat_natCast, hy, vkd hu, he, hin, hr, if_pos hm, Sum.elim_inl, w, List.filterMap_cons, seeI, Bool.true_and]
        rw [hj K, List.append_assoc, List.singleton_append]
def vpr (l : List tVersion.D) (r : tRange.D) (snap : Int) : List tRange.D := (vma r l []).filterMap (seeF l snap)
theorem filterMap_filter' {α β : Type} (p : α → Bool) (f : α → Option β) : ∀ l : List α, l.filterMap (fun x => bif p x then f x else none) = (l.filter p).filterMap f
  | [] => rfl
  | x :: l => by
    simp only [List.filterMap_cons, List.filter_cons, filterMap_filter' p f l]
    cases p x <;> rfl
theorem vzb (l : List tVersion.D) (r : tRange.D) (snap : Int) : (vxz l).filterMap (seeI l r snap) = vpr l r snap := by
  unfold vpr
  rw [← vz3, ← filterMap_filter']
  congr 1
  funext k
  unfold seeI seeF
  cases vdo r k <;> cases (vbh l k snap).2 <;> rfl
theorem vqy {l : List tVersion.D} (r : tRange.D) : (vma r l []).length ≤ l.length := by
  obtain ⟨k1, k2⟩ := vfl r l [] List.Pairwise.nil
  have := vnk (m := l.map fun v => v.1) k1 (fun x hx => by
    rcases (k2 x).1 hx with e | e
    · cases e
    · exact e.2)
  rw [List.length_map] at this
  exact this
theorem vsl (l : List tVersion.D) : (vxz l).length ≤ l.length := by
  obtain ⟨s1, s2⟩ := vsk (l.map fun v => v.1)
  obtain ⟨d1, d2⟩ := v4d s1
  have := vnk (m := l.map fun v => v.1) d1 (fun x hx => (s2 x).1 ((d2 x).1 hx))
  rw [List.length_map] at this
  exact this
theorem vsd (l : List tVersion.D) (r : tRange.D) (snap : Int) : (vpr l r snap).length ≤ l.length := by
  unfold vpr
  exact Nat.le_trans (List.length_filterMap_le _ _) (vqy r)
theorem v0y {l : List tVersion.D} (hl : l.length ≤ 1048576) (r : tRange.D) (snap : Int) (k) : vki l r snap k = k (vpr l r snap) := by
  rw [v1i]
  unfold vwi
  have hk := vsl l
  obtain ⟨j, hj⟩ := vjt (u0 := l) (by omega) (snap := snap) (r := r) (ks := vxz l) (by omega) _ [] 0 Fuel rfl (Nat.lt_of_lt_of_le (by rw [List.drop_zero]; omega) vde) (by simp; omega)
  have hz : ((0 : Nat) : Int) = 0 := rfl
  rw [hz] at hj
  simp only [v6g (show l.length ≤ 1048576 by omega), hj, List.nil_append, List.drop_zero]
  exact congrArg k (vzb l r snap)
end
end Go.VE
/- Plain laws: a write that is put into others. -/
namespace Go.VE
noncomputable section
set_option linter.unusedVariables false
set_option linter.unusedSimpArgs false
set_option maxRecDepth 100000
theorem vka {u0 u2 u3 u4} : ∀ (l s : List tWrite.D) (i : Nat), s.length + l.length ≤ 3000000 → ∃ j : Int, ∀ k, ve9 u0 u2 u3 u4 l s i k = k (j, s ++ l.filter fun y => vab y.1 u2)
  | [], s, i, _ => ⟨_, fun k => by simp [ve9]; rfl⟩
  | y :: l, s, i, h => by
    simp only [List.length_cons] at h
    have hm : s.length + [y].length ≤ VE.maxLen := by show _ ≤ 4294967296; simp; omega
    simp only [ve9, List.filter_cons]
    cases vab y.1 u2
    · obtain ⟨j, hj⟩ := vka (u0 := u0) (u2 := u2) (u3 := u3) (u4 := u4) l s (i + 1) (by omega)
      exact ⟨j, fun k => by simp only [cond_false]; exact hj k⟩
    · obtain ⟨j, hj⟩ := vka (u0 := u0) (u2 := u2) (u3 := u3) (u4 := u4) l (s ++ [y]) (i + 1) (by simp; omega)
      exact ⟨j, fun k => by simp only [cond_true, if_pos hm, if_true]; rw [hj k, List.append_assoc, List.singleton_append]⟩
theorem vjz {u0 u2 u3 u4} : ∀ (l s : List tWrite.D) (i : Nat), s.length + l.length ≤ 3000000 → ∃ j : Int, ∀ k, vfb u0 u2 u3 u4 l s i k = k (j, s ++ l.filter fun y => !(vab y.1 u2 || vap y.1 u2))
  | [], s, i, _ => ⟨_, fun k => by simp [vfb]; rfl⟩
  | y :: l, s, i, h => by
    simp only [List.length_cons] at h
    have hm : s.length + [y].length ≤ VE.maxLen := by show _ ≤ 4294967296; simp; omega
    simp only [vfb, List.filter_cons]
    cases (!(vab y.1 u2 || vap y.1 u2))
    · obtain ⟨j, hj⟩ := vjz (u0 := u0) (u2 := u2) (u3 := u3) (u4 := u4) l s (i + 1) (by omega)
      exact ⟨j, fun k => by simp only [cond_false]; exact hj k⟩
    · obtain ⟨j, hj⟩ := vjz (u0 := u0) (u2 := u2) (u3 := u3) (u4 := u4) l (s ++ [y]) (i + 1) (by simp; omega)
      exact ⟨j, fun k => by simp only [cond_true, if_pos hm, if_true]; rw [hj k, List.append_assoc, List.singleton_append]⟩
def putB (l : List tWrite.D) (w : tWrite.D) : List tWrite.D := (l.filter fun y => vab y.1 w.1) ++ w :: l.filter fun y => !(vab y.1 w.1 || vap y.1 w.1)
theorem v5s {l : List tWrite.D} (hl : l.length ≤ 1048576) (w : tWrite.D) (k) : vmz l w k = k (putB l w) := by
  rw [v8i (by omega)]
  unfold v0s
  obtain ⟨j, hj⟩ := vka (u0 := l) (u2 := w.1) (u3 := w.2.1) (u4 := w.2.2) l [] 0 (by simp; omega)
  have hf := List.length_filter_le (fun y : tWrite.D => vab y.1 w.1) l
  obtain ⟨j2, hj2⟩ := vjz (u0 := l) (u2 := w.1) (u3 := w.2.1) (u4 := w.2.2) l ((l.filter fun y => vab y.1 w.1) ++ [w]) 0 (by simp; omega)
  rw [hj]
  simp only [List.nil_append]
  rw [if_pos (by show _ ≤ 4294967296; simp only [List.length_singleton]; omega), hj2]
  unfold putB
  rw [List.append_assoc, List.singleton_append]
/-- Keys ascend; what is gone has no value. -/
def okP (l : List tWrite.D) : Prop := (l.Pairwise fun a b => vab a.1 b.1 = true) ∧ ∀ y ∈ l, y.2.2 = true → y.2.1 = ⟨#[]⟩
theorem v6m {l : List tWrite.D} (h : okP l) {w : tWrite.D} (hw : w.2.2 = true → w.2.1 = ⟨#[]⟩) : okP (putB l w) := by
  have gt : ∀ y : ByteArray, (!(vab y w.1 || vap y w.1)) = true → vab w.1 y = true := by
    intro y hy
    simp only [Bool.not_eq_true', Bool.or_eq_false_iff] at hy
    cases hh : vab w.1 y
    · have := vew hy.1 hh
      rw [this, vbm] at hy
      cases hy.2
    · rfl
  constructor
  · unfold putB
    rw [List.pairwise_append]
    refine ⟨List.Pairwise.filter _ h.1, List.pairwise_cons.2 ⟨fun x hx => gt x.1 (List.mem_filter.1 hx).2, List.Pairwise.filter _ h.1⟩, fun a ha b hb => ?_⟩
    have ha' := (List.mem_filter.1 ha).2
    rcases List.mem_cons.1 hb with e | e
    · rw [e]; exact ha'
    · exact vdl ha' (gt b.1 (List.mem_filter.1 e).2)
  · intro y hy
    unfold putB at hy
    rcases List.mem_append.1 hy with hy | hy
    · exact h.2 y (List.mem_filter.1 hy).1
    · rcases List.mem_cons.1 hy with e | e
      · rw [e]; exact hw
      · exact h.2 y (List.mem_filter.1 e).1
end
end Go.VE
/- Plain laws: a key that is written. -/
namespace Go.VE
noncomputable section
set_option linter.unusedVariables false
set_option linter.unusedSimpArgs false
set_option maxRecDepth 100000
/-! ### the program's PutWrite -/
/-- Keys ascend. -/
def ascW (l : List tWrite.D) : Prop := l.Pairwise fun a b => vab a.1 b.1 = true
theorem v3o {l : List tWrite.D} {w y : tWrite.D} (h : y ∈ putB l w) : y ∈ l ∨ y = w := by
  unfold putB at h
  rcases List.mem_append.1 h with h | h
  · exact .inl (List.mem_filter.1 h).1
  · rcases List.mem_cons.1 h with h | h
    · exact .inr h
    · exact .inl (List.mem_filter.1 h).1
theorem vt4 (l : List tWrite.D) (w : tWrite.D) : (putB l w).length ≤ l.length + 1 := by
  unfold putB
  have h1 : l.length = (l.filter fun y => vab y.1 w.1).length + (l.filter fun y => !vab y.1 w.1).length := by
    induction l with
    | nil => rfl
    | cons y l ih => cases h : vab y.1 w.1 <;> simp [List.filter_cons, h] <;> omega
  have h2 : (l.filter fun y => !(vab y.1 w.1 || vap y.1 w.1)).length ≤ (l.filter fun y => !vab y.1 w.1).length := by
    have : (l.filter fun y => !(vab y.1 w.1 || vap y.1 w.1)) = (l.filter fun y => !vab y.1 w.1).filter fun y => !vap y.1 w.1 := by
      rw [List.filter_filter]
      congr 1
      funext y
      cases vab y.1 w.1 <;> cases vap y.1 w.1 <;> rfl
    rw [this]
    exact List.length_filter_le _ _
  rw [List.length_append, List.length_cons]
  omega
end
end Go.VE
/- Plain laws: versions that are put into others. -/
namespace Go.VE
noncomputable section
set_option linter.unusedVariables false
set_option linter.unusedSimpArgs false
set_option maxRecDepth 100000
/-- Not behind v in the order of keys and numbers. -/
def leV (v y : tVersion.D) : Bool := vab y.1 v.1 || (vap y.1 v.1 && decide (y.2.2.2 ≤ v.2.2.2))
def insV (l : List tVersion.D) (v : tVersion.D) : List tVersion.D := l.takeWhile (leV v) ++ v :: l.dropWhile (leV v)
def vb3 (cs : Int) (x : tWrite.D) : tVersion.D := (x.1, (x.2.1, (x.2.2, cs)))
def var (l : List tVersion.D) (w : List tWrite.D) (cs : Int) : List tVersion.D := w.foldl (fun out x => insV out (vb3 cs x)) l
theorem vir (l : List tVersion.D) (v : tVersion.D) : (insV l v).length = l.length + 1 := by
  unfold insV
  have := congrArg List.length (List.takeWhile_append_dropWhile (p := leV v) (l := l))
  rw [List.length_append] at this
  rw [List.length_append, List.length_cons]
  omega
theorem vbk : ∀ (w : List tWrite.D) (l : List tVersion.D) (cs : Int), (var l w cs).length = l.length + w.length
  | [], l, cs => rfl
  | x :: w, l, cs => by
    show (var (insV l (vb3 cs x)) w cs).length = _
    rw [vbk w, vir, List.length_cons]
    omega
theorem vye {A : List tWrite.D} {B C : Int} {L : List tVersion.D} {v1 v2 : ByteArray} {v3 : Bool} {v4 : Int} (hL : L.length ≤ 3000000) : ∀ (l : List tVersion.D) (i q : Nat) (s : List tVersion.D), L.drop i = l → l.length < q → s.length + l.length ≤ 3000000 → ∀ K,
    vah vig q (A, B, C, (i : Int), L, v1, v2, v3, v4, s) K = K (A, B, C, ((i + (l.takeWhile (leV (v1, (v2, (v3, v4))))).length : Nat) : Int), L, v1, v2, v3, v4, s ++ l.takeWhile (leV (v1, (v2, (v3, v4)))))
  | l, i, 0, s, _, h, _ => by omega
  | [], i, q + 1, s, hd, _, _ => fun K => by
    have hge := vcx hd
    simp only [vah, vig, hge, decide_false, cond_false, Sum.elim_inr, List.takeWhile_nil, List.length_nil, Nat.add_zero, List.append_nil]
  | y :: l, i, q + 1, s, hd, hq, hs => fun K => by
    have hlt := vep hd
    have hy : L.getD i (Ty.zero tVersion) = y := (vbx hd).2 _
    have hw1 : IntKind.wrap .i64 ((i : Int) + 1) = ((i + 1 : Nat) : Int) := vcq (by omega)
    simp only [List.length_cons] at hs
    have hm : s.length + [y].length ≤ VE.maxLen := by show _ ≤ 4294967296; simp; omega
    have ih := vye (A := A) (B := B) (C := C) (v1 := v1) (v2 := v2) (v3 := v3) (v4 := v4) hL l (i + 1) q (s ++ [y]) (vbb hd) (by simpa using hq) (by rw [List.length_append, List.length_singleton]; omega) K
    have e1 : leV (v1, (v2, (v3, v4))) y = (vab y.1 v1 || (vap y.1 v1 && decide (y.2.2.2 ≤ v4))) := rfl
    simp only [vah, vig, vcj, show (i : Int) < (L.length : Int) by omega, show (0 : Int) ≤ (i : Int) by omega, and_self, if_true, decide_true, cond_true, Int.toNat_natCast, hy, hw1, List.takeWhile_cons, e1, if_pos hm]
    have key : K (A, B, C, ((i + 1 + (l.takeWhile (leV (v1, (v2, (v3, v4))))).length : Nat) : Int), L, v1, v2, v3, v4, s ++ [y] ++ l.takeWhile (leV (v1, (v2, (v3, v4))))) =
        K (A, B, C, ((i + (y :: l.takeWhile (leV (v1, (v2, (v3, v4))))).length : Nat) : Int), L, v1, v2, v3, v4, s ++ y :: l.takeWhile (leV (v1, (v2, (v3, v4))))) := by
      rw [List.append_assoc, List.singleton_append, List.length_cons, show i + 1 + (l.takeWhile (leV (v1, (v2, (v3, v4))))).length = i + ((l.takeWhile (leV (v1, (v2, (v3, v4))))).length + 1) by omega]
    cases vab y.1 v1
    · cases vap y.1 v1
      · simp only [cond_false, Sum.elim_inr, Bool.false_or, Bool.false_and, Bool.false_eq_true, if_false, List.length_nil, Nat.add_zero, List.append_nil]
      · cases decide (y.2.2.2 ≤ v4)
        · simp only [cond_false, cond_true, Sum.elim_inr, Bool.false_or, Bool.true_and, Bool.false_eq_true, if_false, List.length_nil, Nat.add_zero, List.append_nil]
        · simp only [cond_false, cond_true, Sum.elim_inl, Bool.false_or, Bool.true_and, if_true]
          rw [ih, key]
    · simp only [cond_true, Sum.elim_inl, Bool.true_or, if_true]
      rw [ih, key]
theorem vze (l : List tVersion.D) (v : tVersion.D) : l.drop (l.takeWhile (leV v)).length = l.dropWhile (leV v) := by
  have := List.takeWhile_append_dropWhile (p := leV v) (l := l)
  generalize l.takeWhile (leV v) = a at *
  generalize l.dropWhile (leV v) = b at *
  rw [← this, List.drop_left]
theorem v54 (l : List tVersion.D) (v : tVersion.D) : l.take (l.takeWhile (leV v)).length = l.takeWhile (leV v) := by
  have := List.takeWhile_append_dropWhile (p := leV v) (l := l)
  generalize l.takeWhile (leV v) = a at *
  generalize l.dropWhile (leV v) = b at *
  rw [← this, List.take_left]
theorem v6y (l : List tVersion.D) (v : tVersion.D) : (l.takeWhile (leV v)).length + (l.dropWhile (leV v)).length = l.length := by
  have := congrArg List.length (List.takeWhile_append_dropWhile (p := leV v) (l := l))
  rwa [List.length_append] at this
theorem vvc {A : List tWrite.D} {cs : Int} (hA : A.length ≤ 1048576) : ∀ (l : List tWrite.D) (i q : Nat) (s : List tVersion.D), A.drop i = l → l.length < q → s.length + l.length ≤ 2097152 → ∃ j : Int, ∀ K,
    vah viv q (A, cs, (i : Int), s) K = K (A, cs, j, var s l cs)
  | l, i, 0, s, _, h, _ => by omega
  | [], i, q + 1, s, hd, _, _ => by
    have hge := vcx hd
    exact ⟨(i : Int), fun K => by simp only [vah, viv, hge, decide_false, cond_false, Sum.elim_inr]; rfl⟩
  | y :: l, i, q + 1, s, hd, hq, hs => by
    have hlt := vep hd
    have hy : rd (Ty.zero tWrite) A (i : Int) = y := (vbx hd).1 _
    have hw1 : IntKind.wrap .i64 ((i : Int) + 1) = ((i + 1 : Nat) : Int) := vcq (by omega)
    simp only [List.length_cons] at hs
    have hil := vir s (vb3 cs y)
    obtain ⟨j, hj⟩ := vvc (cs := cs) hA l (i + 1) q (insV s (vb3 cs y)) (vbb hd) (by simpa using hq) (by omega)
    refine ⟨j, fun K => ?_⟩
    have hin := vye (A := A) (B := cs) (C := (i : Int)) (v1 := y.1) (v2 := y.2.1) (v3 := y.2.2) (v4 := cs) (show s.length ≤ 3000000 by omega) s 0 Fuel [] rfl (Nat.lt_of_lt_of_le (by omega) vde) (by simp; omega)
    have hz : ((0 : Nat) : Int) = 0 := rfl
    rw [hz] at hin
    have htw := v6y s (vb3 cs y)
    simp only [vah, viv, show (i : Int) < (A.length : Int) by omega, show (0 : Int) ≤ (i : Int) by omega, and_self, if_true, decide_true, cond_true, hy, hw1, hin, List.nil_append, Nat.zero_add]
    change (if (s.takeWhile (leV (vb3 cs y))).length + [vb3 cs y].length ≤ VE.maxLen then if 0 ≤ (((s.takeWhile (leV (vb3 cs y))).length : Nat) : Int) ∧ (((s.takeWhile (leV (vb3 cs y))).length : Nat) : Int) ≤ (s.length : Int) then
      if (s.takeWhile (leV (vb3 cs y)) ++ [vb3 cs y]).length + (s.drop (((s.takeWhile (leV (vb3 cs y))).length : Nat) : Int).toNat).length ≤ VE.maxLen then _ else none else none else none) = _
    rw [if_pos (by show _ ≤ 4294967296; simp only [List.length_singleton]; omega), if_pos ⟨by omega, by omega⟩, if_pos (by show _ ≤ 4294967296; simp only [List.length_append, List.length_singleton, List.length_drop]; omega), Int.toNat_natCast, vze, List.append_assoc, List.singleton_append]
    exact hj K
theorem v55 {l : List tVersion.D} {w : List tWrite.D} (hl : l.length ≤ 1048576) (hw : w.length ≤ 1048576) (cs : Int) (k) : voa l w cs k = k (var l w cs) := by
  rw [vyo]
  unfold vwv
  rw [if_pos (by show _ ≤ 4294967296; simp; omega)]
  obtain ⟨j, hj⟩ := vvc (cs := cs) hw w 0 Fuel l rfl (Nat.lt_of_lt_of_le (by omega) vde) (by omega)
  have hz : ((0 : Nat) : Int) = 0 := rfl
  rw [hz] at hj
  rw [List.nil_append, hj]
theorem v3k (y v : tVersion.D) : decide (cmpV y v > 0) = !leV v y := by
  unfold cmpV leV cmpS cmpI
  cases h1 : vab y.1 v.1
  · cases h2 : vap y.1 v.1
    · simp
    · by_cases h3 : y.2.2.2 < v.2.2.2
      · simp [h3]; exact Int.le_of_lt h3
      · by_cases h4 : y.2.2.2 > v.2.2.2
        · simp [h3, h4]
        · simp [h3, h4]; exact Int.not_lt.1 h4
  · simp
theorem vn4 {u0 u1} {v1 v2 : ByteArray} {v3 : Bool} {v4 : Int} : ∀ (l : List tVersion.D) (i : Nat), ∃ j : Int, ∀ k,
    vhe u0 u1 l v1 v2 v3 v4 i k = k (bif l.all (leV (v1, (v2, (v3, v4)))) then .inr (j, v1, v2, v3, v4) else .inl (((i + (l.takeWhile (leV (v1, (v2, (v3, v4))))).length : Nat) : Int), j, v1, v2, v3, v4))
  | [], i => ⟨(i : Int), fun k => rfl⟩
  | y :: l, i => by
    obtain ⟨j, hj⟩ := vn4 (u0 := u0) (u1 := u1) (v1 := v1) (v2 := v2) (v3 := v3) (v4 := v4) l (i + 1)
    simp only [vhe, v1n, vv9, v0h, v3k, List.all_cons, List.takeWhile_cons]
    cases leV (v1, (v2, (v3, v4))) y
    · exact ⟨(i : Int), fun k => by simp⟩
    · refine ⟨j, fun k => ?_⟩
      simp only [Bool.not_true, cond_false, Bool.true_and, if_true, List.length_cons, hj]
      rw [show i + 1 + (l.takeWhile (leV (v1, (v2, (v3, v4))))).length = i + ((l.takeWhile (leV (v1, (v2, (v3, v4))))).length + 1) by omega]
theorem v4c {α : Type} {p : α → Bool} : ∀ {l : List α}, l.all p = true → l.takeWhile p = l
  | [], _ => rfl
  | y :: l, h => by
    simp only [List.all_cons, Bool.and_eq_true] at h
    rw [List.takeWhile_cons, if_pos h.1, v4c h.2]
theorem vnr {u0 : Int} {u1 : List tWrite.D} : ∀ (l : List tWrite.D) (s : List tVersion.D) (i : Nat), s.length + l.length ≤ 2097152 → ∃ j : Int, ∀ k,
    vgd u0 u1 l s i k = k (j, var s l u0)
  | [], s, i, _ => ⟨(i : Int), fun k => rfl⟩
  | y :: l, s, i, h => by
    simp only [List.length_cons] at h
    have hil := vir s (vb3 u0 y)
    obtain ⟨j, hj⟩ := vnr (u0 := u0) (u1 := u1) l (insV s (vb3 u0 y)) (i + 1) (by omega)
    refine ⟨j, fun k => ?_⟩
    obtain ⟨j2, hj2⟩ := vn4 (u0 := s) (u1 := 0) (v1 := y.1) (v2 := y.2.1) (v3 := y.2.2) (v4 := u0) s 0
    have htw := v6y s (vb3 u0 y)
    have hins : ∀ n : Nat, n = (s.takeWhile (leV (vb3 u0 y))).length → insL s (n : Int) [vb3 u0 y] = insV s (vb3 u0 y) := by
      intro n hn
      unfold insL insV
      rw [Int.toNat_natCast, hn, v54, vze, List.append_assoc, List.singleton_append]
    have hk : ∀ (n : Nat) (K : List tVersion.D × List tVersion.D → Option Res), n = (s.takeWhile (leV (vb3 u0 y))).length → vkv (n : Int) s [vb3 u0 y] K = K ([vb3 u0 y], insV s (vb3 u0 y)) := by
      intro n K hn
      rw [vz5]
      unfold vsq
      rw [if_pos ⟨by omega, by omega, by simp, by simp; omega⟩, hins n hn]
    simp only [vgd]
    rw [v8m (by omega)]
    unfold vzd
    rw [hj2]
    change (bif s.all (leV (vb3 u0 y)) then (Sum.inr (j2, y.1, y.2.1, y.2.2, u0) : (Int × Int × ByteArray × ByteArray × Bool × Int) ⊕ (Int × ByteArray × ByteArray × Bool × Int)) else .inl (((0 + (s.takeWhile (leV (vb3 u0 y))).length : Nat) : Int), j2, y.1, y.2.1, y.2.2, u0)).elim _ _ = _
    cases ha : s.all (leV (vb3 u0 y))
    · simp only [cond_false, Sum.elim_inl, Nat.zero_add, show ¬ ((((s.takeWhile (leV (vb3 u0 y))).length : Nat) : Int) < 0) by omega, decide_false]
      exact (hk _ _ rfl).trans (hj k)
    · simp only [cond_true, Sum.elim_inr, show ((-1 : Int) < 0) by decide, decide_true]
      exact (hk _ _ (by rw [v4c ha])).trans (hj k)
theorem v5z {l : List tVersion.D} {w : List tWrite.D} (hl : l.length ≤ 1048576) (hw : w.length ≤ 1048576) (cs : Int) (k) : vme l w cs k = k (var l w cs) := by
  rw [v8h (by omega)]
  unfold v1j
  rw [if_pos (by show _ ≤ 4294967296; omega)]
  obtain ⟨j, hj⟩ := vnr (u0 := cs) (u1 := w) w l 0 (by omega)
  rw [hj]
end
end Go.VE
/- Plain laws: versions in order; what is seen among them. -/
namespace Go.VE
noncomputable section
set_option linter.unusedVariables false
set_option linter.unusedSimpArgs false
set_option maxRecDepth 100000
theorem vop {α : Type} {R : α → α → Prop} {p : α → Bool} : ∀ {l : List α}, l.Pairwise R → (∀ a b, R a b → p b = true → p a = true) → l.takeWhile p = l.filter p ∧ l.dropWhile p = l.filter (fun y => !p y)
  | [], _, _ => ⟨rfl, rfl⟩
  | y :: l, h, hp => by
    obtain ⟨h1, h2⟩ := List.pairwise_cons.1 h
    obtain ⟨a, b⟩ := vop h2 hp
    cases hy : p y with
    | true => simp [List.takeWhile_cons, List.dropWhile_cons, List.filter_cons, hy, a, b]
    | false =>
      have hall : ∀ z ∈ l, p z = false := fun z hz => by
        cases hz2 : p z with
        | false => rfl
        | true => rw [hp y z (h1 z hz) hz2] at hy; cases hy
      have e1 : l.filter p = [] := List.filter_eq_nil_iff.2 fun z hz => by simp [hall z hz]
      have e2 : l.filter (fun y => !p y) = l := List.filter_eq_self.2 fun z hz => by simp [hall z hz]
      simp [List.takeWhile_cons, List.dropWhile_cons, List.filter_cons, hy, e1, e2]
/-- The order of versions: by keys, then by numbers. -/
theorem vom (a b : tVersion.D) : vbs a b = true ↔ vab a.1 b.1 = true ∨ (a.1 = b.1 ∧ (a.2.2.2 : Int) < b.2.2.2) := by
  unfold vbs
  rw [Bool.or_eq_true, Bool.and_eq_true, voj, decide_eq_true_eq, decide_eq_true_eq]
theorem vvj (v y : tVersion.D) : leV v y = true ↔ vab y.1 v.1 = true ∨ (y.1 = v.1 ∧ (y.2.2.2 : Int) ≤ v.2.2.2) := by
  unfold leV
  rw [Bool.or_eq_true, Bool.and_eq_true, voj, decide_eq_true_eq, decide_eq_true_eq]
theorem v82 {a b c : tVersion.D} (h1 : vbs a b = true) (h2 : vbs b c = true) : vbs a c = true := by
  rw [vom] at *
  rcases h1 with h1 | ⟨e1, h1⟩ <;> rcases h2 with h2 | ⟨e2, h2⟩
  · exact .inl (vdl h1 h2)
  · exact .inl (e2 ▸ h1)
  · exact .inl (e1 ▸ h2)
  · exact .inr ⟨e1.trans e2, Int.lt_trans h1 h2⟩
theorem v4y {v y : tVersion.D} (h : leV v y = false) : vbs v y = true := by
  rw [vom]
  cases h1 : vab y.1 v.1 with
  | true => rw [(vvj v y).2 (.inl h1)] at h; cases h
  | false =>
    cases h2 : vab v.1 y.1 with
    | true => exact .inl rfl
    | false =>
      have e := vew h1 h2
      refine .inr ⟨e.symm, ?_⟩
      rcases Int.lt_or_le v.2.2.2 y.2.2.2 with h3 | h3
      · exact h3
      · rw [(vvj v y).2 (.inr ⟨e, h3⟩)] at h; cases h
abbrev vcc (l : List tVersion.D) : Prop := l.Pairwise fun a b => vbs a b = true
theorem v17 {v a b : tVersion.D} (h : vbs a b = true) (hb : leV v b = true) : leV v a = true := by
  rw [vom] at h
  rw [vvj] at *
  rcases h with h | ⟨e, h⟩ <;> rcases hb with hb | ⟨eb, hb⟩
  · exact .inl (vdl h hb)
  · exact .inl (eb ▸ h)
  · exact .inl (e ▸ hb)
  · exact .inr ⟨e.trans eb, Int.le_of_lt (Int.lt_of_lt_of_le h hb)⟩
theorem vtb {l : List tVersion.D} (h : vcc l) {v : tVersion.D} (hn : ∀ y ∈ l, ¬ (y.1 = v.1 ∧ (y.2.2.2 : Int) = v.2.2.2)) : vcc (insV l v) := by
  obtain ⟨e1, e2⟩ := vop (p := leV v) h (fun a b hab hb => v17 hab hb)
  have hlt : ∀ y ∈ l, leV v y = true → vbs y v = true := fun y hy hle => by
    rw [vvj] at hle
    rw [vom]
    rcases hle with hle | ⟨e, hle⟩
    · exact .inl hle
    · refine .inr ⟨e, ?_⟩
      rcases Int.lt_or_eq_of_le hle with h1 | h1
      · exact h1
      · exact absurd ⟨e, h1⟩ (hn y hy)
  unfold insV
  rw [e1, e2]
  refine List.pairwise_append.2 ⟨List.Pairwise.filter _ h, List.pairwise_cons.2 ⟨fun x hx => ?_, List.Pairwise.filter _ h⟩, fun a ha b hb => ?_⟩
  · have := (List.mem_filter.1 hx).2
    exact v4y (by simpa using this)
  · have ha' := hlt a (List.mem_filter.1 ha).1 (List.mem_filter.1 ha).2
    rcases List.mem_cons.1 hb with hb | hb
    · rw [hb]; exact ha'
    · have := (List.mem_filter.1 hb).2
      exact v82 ha' (v4y (by simpa using this))
theorem vuz {l : List tVersion.D} {v y : tVersion.D} : y ∈ insV l v ↔ y ∈ l ∨ y = v := by
  have e := List.takeWhile_append_dropWhile (p := leV v) (l := l)
  unfold insV
  constructor
  · intro h
    rcases List.mem_append.1 h with h | h
    · exact .inl (by rw [← e]; exact List.mem_append_left _ h)
    · rcases List.mem_cons.1 h with h | h
      · exact .inr h
      · exact .inl (by rw [← e]; exact List.mem_append_right _ h)
  · intro h
    rcases h with h | h
    · rw [← e] at h
      rcases List.mem_append.1 h with h | h
      · exact List.mem_append_left _ h
      · exact List.mem_append_right _ (List.mem_cons_of_mem _ h)
    · rw [h]; exact List.mem_append_right _ (List.mem_cons_self ..)
theorem vd1 {cs : Int} {y : tVersion.D} : ∀ {w : List tWrite.D} {l : List tVersion.D}, y ∈ var l w cs ↔ y ∈ l ∨ ∃ x ∈ w, y = vb3 cs x
  | [], l => ⟨fun h => .inl h, fun h => h.elim id fun ⟨x, hx, _⟩ => by cases hx⟩
  | x :: w, l => by
    show y ∈ var (insV l (vb3 cs x)) w cs ↔ _
    rw [vd1, vuz]
    constructor
    · rintro ((h | h) | ⟨z, hz, h⟩)
      · exact .inl h
      · exact .inr ⟨x, List.mem_cons_self .., h⟩
      · exact .inr ⟨z, List.mem_cons_of_mem _ hz, h⟩
    · rintro (h | ⟨z, hz, h⟩)
      · exact .inl (.inl h)
      · rcases List.mem_cons.1 hz with e | hz
        · exact .inl (.inr (e ▸ h))
        · exact .inr ⟨z, hz, h⟩
/-- Writes of unlike keys, put behind lesser numbers, leave the versions in order. -/
theorem vbv {cs : Int} : ∀ {w : List tWrite.D} {l : List tVersion.D}, vcc l → ascW w → (∀ y ∈ l, (y.2.2.2 : Int) < cs ∨ ∀ x ∈ w, y.1 ≠ x.1) → vcc (var l w cs)
  | [], l, h, _, _ => h
  | x :: w, l, h, ha, hc => by
    obtain ⟨h1, h2⟩ := List.pairwise_cons.1 ha
    show vcc (var (insV l (vb3 cs x)) w cs)
    refine vbv (vtb h fun y hy => ?_) h2 fun y hy => ?_
    · rintro ⟨e1, e2⟩
      rcases hc y hy with h3 | h3
      · have : (y.2.2.2 : Int) = cs := e2
        rw [this] at h3; exact Int.lt_irrefl _ h3
      · exact h3 x (List.mem_cons_self ..) e1
    · rcases vuz.1 hy with hy | hy
      · rcases hc y hy with h3 | h3
        · exact .inl h3
        · exact .inr fun z hz => h3 z (List.mem_cons_of_mem _ hz)
      · refine .inr fun z hz e => ?_
        have := h1 z hz
        rw [hy] at e
        have e' : x.1 = z.1 := e
        rw [e', vcb] at this
        cases this
theorem vlx : ∀ (l : List tVersion.D) (p : Option tVersion.D), vcc l → (∀ y ∈ l, vb5 y = true) → (∀ x, p = some x → ∀ y ∈ l, vbs x y = true) → vfz p l = true
  | [], p, _, _, _ => rfl
  | y :: l, p, h, ho, hp => by
    obtain ⟨h1, h2⟩ := List.pairwise_cons.1 h
    simp only [vfz, ho y (List.mem_cons_self ..), Bool.true_and, vlx l (some y) h2 (fun z hz => ho z (List.mem_cons_of_mem _ hz)) (fun x hx z hz => by cases hx; exact h1 z hz), Bool.and_true]
    cases p with
    | none => rfl
    | some x => exact hp x rfl y (List.mem_cons_self ..)
theorem vpc {l : List tVersion.D} (h : vcc l) (ho : ∀ y ∈ l, vb5 y = true) (hl : l.length ≤ 120) : vdk l = true := by
  unfold vdk
  rw [vlx l none h ho (fun x hx => by cases hx), Bool.true_and, decide_eq_true_eq]
  omega
def atP (key : ByteArray) (snap : Int) (y : tVersion.D) : Bool := vap y.1 key && decide ((y.2.2.2 : Int) ≤ snap)
def v3i (m : List tVersion.D) : ByteArray × Bool :=
  match m.getLast? with
  | none => (⟨#[]⟩, false)
  | some y => bif y.2.2.1 then (⟨#[]⟩, false) else (y.2.1, true)
theorem ve8 {u0 : List tVersion.D} (hs : vcc u0) {key : ByteArray} {snap : Int} : ∀ (l : List tVersion.D) (s : Int) (i : Nat), u0.drop i = l →
    (s < 0 ∧ (u0.take i).filter (atP key snap) = [] ∨ 0 ≤ s ∧ ((u0.take i).filter (atP key snap)).getLast? = some (rd zV u0 s)) →
    (vbg u0 key snap l s i < 0 ∧ u0.filter (atP key snap) = [] ∨ 0 ≤ vbg u0 key snap l s i ∧ (u0.filter (atP key snap)).getLast? = some (rd zV u0 (vbg u0 key snap l s i)))
  | [], s, i, hd, hi => by
    have : u0.take i = u0 := by
      have hle := List.drop_eq_nil_iff.1 hd
      exact List.take_of_length_le hle
    rw [this] at hi
    exact hi
  | y :: l, s, i, hd, hi => by
    have hlt := vep hd
    have hy : u0[i]? = some y := by
      have := congrArg (fun l => l[0]?) hd
      simpa [List.getElem?_drop] using this
    have ht : u0.take (i + 1) = u0.take i ++ [y] := by
      rw [List.take_add_one, hy]; rfl
    have hrd : rd zV u0 (i : Int) = y := (vbx hd).1 _
    simp only [vbg]
    have e : (vap y.1 key && (decide (y.2.2.2 ≤ snap) && (decide (s < 0) || decide (y.2.2.2 > (rd zV u0 s).2.2.2)))) = atP key snap y := by
      unfold atP
      cases h1 : vap y.1 key with
      | false => rfl
      | true =>
        cases h2 : decide ((y.2.2.2 : Int) ≤ snap) with
        | false => rfl
        | true =>
          simp only [Bool.true_and]
          rcases hi with ⟨h3, _⟩ | ⟨h3, h4⟩
          · rw [decide_eq_true h3]; rfl
          · have hm := List.mem_of_getLast? h4
            have hk := (List.mem_filter.1 hm).2
            unfold atP at hk
            rw [Bool.and_eq_true] at hk
            have hv : vbs (rd zV u0 s) y = true := by
              have hp : (u0.take i ++ y :: l).Pairwise fun a b => vbs a b = true := by
                rw [← hd, List.take_append_drop]; exact hs
              exact (List.pairwise_append.1 hp).2.2 _ (List.mem_filter.1 hm).1 y (List.mem_cons_self ..)
            rw [vom] at hv
            have ek : (rd zV u0 s).1 = y.1 := (vcg hk.1).trans (vcg h1).symm
            rcases hv with hv | ⟨_, hv⟩
            · rw [ek, vcb] at hv; cases hv
            · rw [show decide (y.2.2.2 > (rd zV u0 s).2.2.2) = true from decide_eq_true hv, Bool.or_true]
    have e' : (bif vap y.1 key && (decide (y.2.2.2 ≤ snap) && (decide (s < 0) || decide (y.2.2.2 > (rd zV u0 s).2.2.2))) then vbg u0 key snap l (i : Int) (i + 1) else vbg u0 key snap l s (i + 1)) = bif atP key snap y then vbg u0 key snap l (i : Int) (i + 1) else vbg u0 key snap l s (i + 1) := by rw [e]
    rw [e']
    cases hp : atP key snap y with
    | false =>
      rw [cond_false]
      refine ve8 hs l s (i + 1) (vbb hd) ?_
      rw [ht, List.filter_append]
      simpa [List.filter_cons, hp] using hi
    | true =>
      rw [cond_true]
      refine ve8 hs l (i : Int) (i + 1) (vbb hd) (.inr ⟨by omega, ?_⟩)
      rw [ht, List.filter_append, hrd]
      simp [List.filter_cons, hp]
theorem vga {l : List tVersion.D} (h : vcc l) (key : ByteArray) (snap : Int) : vbh l key snap = v3i (l.filter (atP key snap)) := by
  have := ve8 h (key := key) (snap := snap) l (-1) 0 rfl (.inl ⟨by omega, rfl⟩)
  unfold vbh v3i vct
  rcases this with ⟨h1, h2⟩ | ⟨h1, h2⟩
  · rw [h2, decide_eq_true h1]; rfl
  · rw [h2, decide_eq_false (by omega)]; rfl
/-- In order, what is greatest is last. -/
theorem vtd {m : List tVersion.D} (h : vcc m) {v : tVersion.D} (hv : v ∈ m) (hm : ∀ y ∈ m, y.1 = v.1 ∧ (y.2.2.2 : Int) ≤ v.2.2.2) : m.getLast? = some v := by
  obtain ⟨a, b, rfl⟩ := List.append_of_mem hv
  cases b with
  | nil => simp
  | cons z b =>
    exfalso
    have hp := (List.pairwise_append.1 h).2.1
    have := (List.pairwise_cons.1 hp).1 z (List.mem_cons_self ..)
    obtain ⟨e1, e2⟩ := hm z (by simp)
    rw [vom, e1, vcb] at this
    rcases this with this | ⟨_, this⟩
    · cases this
    · exact absurd this (Int.not_lt.2 e2)
theorem vvh {l : List tVersion.D} (h : vcc l) {key : ByteArray} {snap : Int} (hs : (vbh l key snap).2 = true) : ∃ y ∈ l, y.1 = key ∧ (y.2.2.2 : Int) ≤ snap := by
  rw [vga h] at hs
  unfold v3i at hs
  split at hs
  · cases hs
  · rename_i y hy
    have hm := List.mem_filter.1 (List.mem_of_getLast? hy)
    have hk := hm.2
    unfold atP at hk
    rw [Bool.and_eq_true, decide_eq_true_eq] at hk
    exact ⟨y, hm.1, vcg hk.1, hk.2⟩
theorem vjq {α β : Type} (p : α → Bool) (f : α → β) : ∀ l : List α, l.filterMap (fun x => bif p x then some (f x) else none) = (l.filter p).map f
  | [] => rfl
  | x :: l => by
    rw [List.filterMap_cons, List.filter_cons, vjq p f l]
    cases p x <;> rfl
/-- Two lists at which the same is seen scan alike. -/
theorem v2y {l m : List tVersion.D} (hl : vcc l) (hm : vcc m) {s s' : Int} (h : ∀ key, vbh l key s = vbh m key s') (r : tRange.D) : vpr l r s = vpr m r s' := by
  have key : ∀ (a : List tVersion.D) (t : Int), vpr a r t = ((vma r a []).filter fun k => (vbh a k t).2).map fun k => (k, (vbh a k t).1) := fun a t => vjq _ _ _
  rw [key, key]
  have e : (vma r l []).filter (fun k => (vbh l k s).2) = (vma r m []).filter (fun k => (vbh m k s').2) := by
    obtain ⟨a1, a2⟩ := vfl r l [] List.Pairwise.nil
    obtain ⟨b1, b2⟩ := vfl r m [] List.Pairwise.nil
    refine vt6 (List.Pairwise.filter _ a1) (List.Pairwise.filter _ b1) fun x => ?_
    rw [List.mem_filter, List.mem_filter, a2, b2, h]
    constructor
    · rintro ⟨h1 | h1, h2⟩
      · cases h1
      · obtain ⟨y, hy, e, _⟩ := vvh hm h2
        exact ⟨.inr ⟨h1.1, List.mem_map.2 ⟨y, hy, e⟩⟩, h2⟩
    · rintro ⟨h1 | h1, h2⟩
      · cases h1
      · obtain ⟨y, hy, e, _⟩ := vvh hl (by rw [h]; exact h2)
        exact ⟨.inr ⟨h1.1, List.mem_map.2 ⟨y, hy, e⟩⟩, h2⟩
  rw [e]
  refine List.map_congr_left fun k _ => ?_
  rw [h]
end
end Go.VE
/- Plain laws: draws of writes and versions, exactly. -/
namespace Go.VE
noncomputable section
set_option linter.unusedVariables false
set_option linter.unusedSimpArgs false
set_option maxRecDepth 100000
theorem v23 : ∀ x ∈ [(⟨#[97]⟩ : ByteArray), (⟨#[98]⟩ : ByteArray), (⟨#[99]⟩ : ByteArray), (⟨#[100]⟩ : ByteArray), (⟨#[97, 98]⟩ : ByteArray)], vg1 x = true := by decide
theorem v7h {l : List Int} {p s : Int} (h : Dr l p) : Gives (vls l p s) (fun y => vg1 y.1 = true ∧ Dr y.2.1 y.2.2.1) := by
  rw [vvz]
  unfold vsu
  exact (vzv (Q := fun x => vg1 x = true) v23 (by decide) (by decide) h).bind (fun y hy => vag hy)
theorem v7u {l : List Int} {p s : Int} (h : Dr l p) : Gives (vq1 l p s) (fun y => vdp (y.1, (y.2.1, y.2.2.1)) = true ∧ Dr y.2.2.2.1 y.2.2.2.2.1) := by
  rw [v1g]
  unfold vv8
  refine (v7h h).bind (fun y1 h1 => (vzv (Q := fun x => (x.size : Int) ≤ 12) (by decide) (by decide) (by decide) h1.2).bind (fun y2 h2 => (v6x (by decide) (by decide) h2.2).bind (fun y3 h3 => va5 (fun _ => vag ⟨?_, h3⟩) (fun _ => vag ⟨?_, h3⟩))))
  · unfold vdp
    rw [h1.1, vbm]; rfl
  · unfold vdp
    dsimp only
    rw [h1.1, decide_eq_true h2.1]; rfl
/-- Right writes: keys ascend, each is right; at most n. -/
def okX (n : Nat) (w : List tWrite.D) : Prop := ascW w ∧ (∀ y ∈ w, vdp y = true) ∧ w.length ≤ n
theorem vv6 {n m : Nat} {w} (h : okX n w) (hm : n ≤ m) : okX m w := ⟨h.1, h.2.1, Nat.le_trans h.2.2 hm⟩
theorem vhj {w : tWrite.D} (h : vdp w = true) (hg : w.2.2 = true) : w.2.1 = ⟨#[]⟩ := by
  unfold vdp at h
  simp only [Bool.and_eq_true, hg, Bool.not_true, Bool.false_or] at h
  exact vcg h.2
theorem v2n {n : Nat} {l : List tWrite.D} (h : okX n l) {w : tWrite.D} (hw : vdp w = true) : okX (n + 1) (putB l w) := by
  refine ⟨(v6m (l := l) ⟨h.1, fun y hy hg => vhj (h.2.1 y hy) hg⟩ (w := w) (vhj hw)).1, fun y hy => ?_, Nat.le_trans (vt4 l w) (Nat.succ_le_succ h.2.2)⟩
  rcases v3o hy with hy | rfl
  · exact h.2.1 y hy
  · exact hw
theorem vxl : ∀ (m i : Nat) (l : List Int) (p s : Int) (acc : List tWrite.D) (n : Nat), i + m = 3 → m < n → okX i acc → Dr l p →
    Gives (vah vi3 n ((i : Int), l, p, s, acc)) (fun z => Dr z.2.1 z.2.2.1 ∧ okX 3 z.2.2.2.2) := by
  intro m
  induction m with
  | zero =>
    intro i l p s acc n hm hn ha h
    obtain ⟨n, rfl⟩ : ∃ q, n = q + 1 := ⟨n - 1, by omega⟩
    apply vc2
    unfold vi3
    refine (vjg (by decide) (by decide) h).bind (fun y hy => va5 (fun c => by have c := of_decide_eq_true c; have := hy.2.1; dsimp only at c; omega) (fun _ => vag (vjj ⟨hy.2.2, vv6 ha (by omega)⟩)))
  | succ m ih =>
    intro i l p s acc n hm hn ha h
    obtain ⟨n, rfl⟩ : ∃ q, n = q + 1 := ⟨n - 1, by omega⟩
    have hlen := ha.2.2
    apply vc2
    unfold vi3
    have hput : ∀ (w : tWrite.D), vdp w = true → Gives (vmz acc w) (fun z => okX (i + 1) z) := fun w hw => ⟨putB acc w, v2n ha hw, fun k => v5s (by omega) w k⟩
    refine (vjg (by decide) (by decide) h).bind (fun y hy => va5 (fun c => (v7u hy.2.2).bind (fun y3 h3 => (hput _ h3.1).bind (fun y4 h4 => vag (vvn ?_)))) (fun _ => vag (vjj ⟨hy.2.2, vv6 ha (by omega)⟩)))
    have e : IntKind.wrap .i64 ((i : Int) + 1) = ((i + 1 : Nat) : Int) := vcq (by omega)
    simp only [e]
    exact ih (i + 1) _ _ _ _ n (by omega) (by omega) h4 h3.2
theorem v57 (n : Nat) : okX n [] := ⟨List.Pairwise.nil, (fun y hy => by simp at hy), Nat.zero_le _⟩
theorem v43 {l : List Int} {p s : Int} (h : Dr l p) : Gives (voo l p s) (fun y => Dr y.1 y.2.1 ∧ okX 3 y.2.2.2) := by
  rw [vyi]
  unfold vu4
  exact (vxl 3 0 l p s [] Fuel rfl (by have := vde; omega) (v57 _) h).bind (fun z hz => vag hz)
/-- Right versions: in order, each is right, no number above n; at most 3 for each number. -/
def okZ (n : Nat) (l : List tVersion.D) : Prop := vcc l ∧ (∀ y ∈ l, vb5 y = true ∧ (y.2.2.2 : Int) ≤ (n : Int)) ∧ l.length ≤ 3 * n
theorem vwr {n m : Nat} {w} (h : okZ n w) (hm : n ≤ m) : okZ m w := ⟨h.1, fun y hy => ⟨(h.2.1 y hy).1, Int.le_trans (h.2.1 y hy).2 (by omega)⟩, Nat.le_trans h.2.2 (by omega)⟩
theorem vqf {w : tWrite.D} (h : vdp w = true) {cs : Int} (h1 : 1 ≤ cs) (h2 : cs ≤ 9999) : vb5 (vb3 cs w) = true := by
  unfold vdp at h
  unfold vb5 vb3 vhd
  simp only [Bool.and_eq_true] at h
  simp only [h.1.1, h.1.2, h.2, Bool.true_and]
  rw [Bool.and_eq_true, decide_eq_true_eq, decide_eq_true_eq]
  exact ⟨h1, h2⟩
theorem v59 {n : Nat} (hn : n ≤ 100) {l : List tVersion.D} (h : okZ n l) {w : List tWrite.D} (hw : okX 3 w) : okZ (n + 1) (var l w ((n + 1 : Nat) : Int)) := by
  refine ⟨vbv h.1 hw.1 fun y hy => .inl ?_, fun y hy => ?_, ?_⟩
  · have := (h.2.1 y hy).2
    exact Int.lt_of_le_of_lt this (by omega)
  · rcases vd1.1 hy with hy | ⟨x, hx, rfl⟩
    · exact ⟨(h.2.1 y hy).1, Int.le_trans (h.2.1 y hy).2 (by omega)⟩
    · exact ⟨vqf (hw.2.1 x hx) (by omega) (by omega), Int.le_refl _⟩
  · have h1 := h.2.2
    have h2 := hw.2.2
    rw [vbk]
    omega
theorem vzr : ∀ (m i : Nat) (l : List Int) (p s : Int) (acc : List tVersion.D) (n : Nat), i + m = 7 → m < n → okZ i acc → Dr l p →
    Gives (vah vio n ((i : Int), l, p, s, acc)) (fun z => Dr z.2.1 z.2.2.1 ∧ okZ 7 z.2.2.2.2) := by
  intro m
  induction m with
  | zero =>
    intro i l p s acc n hm hn ha h
    obtain ⟨n, rfl⟩ : ∃ q, n = q + 1 := ⟨n - 1, by omega⟩
    apply vc2
    unfold vio
    refine (vjg (by decide) (by decide) h).bind (fun y hy => va5 (fun c => by have c := of_decide_eq_true c; have := hy.2.1; dsimp only at c; omega) (fun _ => vag (vjj ⟨hy.2.2, vwr ha (by omega)⟩)))
  | succ m ih =>
    intro i l p s acc n hm hn ha h
    obtain ⟨n, rfl⟩ : ∃ q, n = q + 1 := ⟨n - 1, by omega⟩
    have hlen := ha.2.2
    apply vc2
    unfold vio
    have e : IntKind.wrap .i64 ((i : Int) + 1) = ((i + 1 : Nat) : Int) := vcq (by omega)
    have hput : ∀ (w : List tWrite.D), okX 3 w → Gives (voa acc w ((i + 1 : Nat) : Int)) (fun z => okZ (i + 1) z) := fun w hw => ⟨var acc w ((i + 1 : Nat) : Int), v59 (by omega) ha hw, fun k => v55 (by omega) (by have := hw.2.2; omega) _ k⟩
    refine (vjg (by decide) (by decide) h).bind (fun y hy => va5 (fun c => (v43 hy.2.2).bind (fun y3 h3 => ?_)) (fun _ => vag (vjj ⟨hy.2.2, vwr ha (by omega)⟩)))
    simp only [e]
    exact (hput _ h3.2).bind (fun y4 h4 => vag (vvn (ih (i + 1) _ _ _ _ n (by omega) (by omega) h4 h3.1)))
theorem v6j (n : Nat) : okZ n [] := ⟨List.Pairwise.nil, (fun y hy => by simp at hy), Nat.zero_le _⟩
theorem v4z {l : List Int} {p s : Int} (h : Dr l p) : Gives (vn0 l p s) (fun y => Dr y.1 y.2.1 ∧ okZ 7 y.2.2.2) := by
  rw [v0i]
  unfold vwu
  exact (vzr 7 0 l p s [] Fuel rfl (by have := vde; omega) (v6j _) h).bind (fun z hz => vag hz)
theorem v7e {a0 : List Int} (hl : a0.length ≤ 1048576) : Gives (vos a0) (okZ 7) := by
  rw [v1o]
  unfold vva
  exact (vzk hl).bind (fun y1 h1 => (v4z h1).bind (fun y2 h2 => vag h2.2))
theorem v8a {a0 : List Int} (hl : a0.length ≤ 1048576) : Gives (vnh a0) (okX 3) := by
  rw [v03]
  unfold vvg
  exact (vzk hl).bind (fun y1 h1 => (v43 h1).bind (fun y2 h2 => vag h2.2))
theorem v8s {l : List Int} {p s : Int} (h : Dr l p) : Gives (vr4 l p s) (fun y => Dr y.1 y.2.1 ∧ y.2.2.2.length ≤ 21) := by
  rw [v0a]
  unfold vu3
  refine (vjg (by decide) (by decide) h).bind (fun y1 h1 => (vjg (by decide) (by decide) h1.2.2).bind (fun y2 h2 => (v4z h2.2.2).bind (fun y3 h3 => ?_)))
  have hl := h3.2.2.2
  have m3 : 0 ≤ y2.1.tmod 3 ∧ y2.1.tmod 3 < ((3 : Nat) : Int) := ⟨Int.tmod_nonneg _ h2.1, Int.tmod_lt_of_pos _ (by decide)⟩
  have m4 : 0 ≤ y2.1.tmod 4 ∧ y2.1.tmod 4 < ((4 : Nat) : Int) := ⟨Int.tmod_nonneg _ h2.1, Int.tmod_lt_of_pos _ (by decide)⟩
  have e : ([] : List vaa) ++ y3.2.2.2 = y3.2.2.2 := rfl
  simp only [e]
  generalize y3.2.2.2 = L at hl
  refine vb4 (by show _ ≤ 4294967296; simp only [List.length_nil]; omega) (va5 (fun c => ?_) (fun _ => vag ⟨h3.1, hl⟩))
  have c := of_decide_eq_true c
  have mL : 0 ≤ y2.1.tmod (L.length : Int) ∧ y2.1.tmod (L.length : Int) < (L.length : Int) := ⟨Int.tmod_nonneg _ h2.1, Int.tmod_lt_of_pos _ (by omega)⟩
  refine vr7 (by omega) (va5 (fun _ => vb4 m4 (vb4 mL (vag ⟨h3.1, by rw [List.length_set]; exact hl⟩))) (fun _ => va5 (fun _ => vb4 m3 (vb4 mL (vag ⟨h3.1, by rw [List.length_set]; exact hl⟩))) (fun _ => va5 (fun _ => vb4 mL (vag ⟨h3.1, by rw [List.length_set]; exact hl⟩)) (fun _ => va5 (fun _ => (v77 (by decide) (by decide)).bind (fun y4 h4 => vb4 mL (vag ⟨h3.1, by rw [List.length_set]; exact hl⟩))) (fun _ => vag ⟨h3.1, hl⟩)))))
theorem v7f {a0 : List Int} (hl : a0.length ≤ 1048576) : Gives (voi a0) (fun y => y.2.2.length ≤ 21) := by
  rw [v05]
  unfold vvu
  exact (vzk hl).bind (fun y1 h1 => (v7l h1).bind (fun y2 h2 => (vjg (by decide) (by decide) h2.2).bind (fun y3 h3 => (v8s h3.2.2).bind (fun y4 h4 => vag h4.2))))
theorem vm8 {x : List tRange.D} (hl : x.length ≤ 1048576) (k) : vlw x x k = k true := by
  have loop : ∀ (l : List tRange.D) (i : Nat) (u2 : Bool), x.drop i = l → ∃ j : Int, ∀ k, vgs x x u2 l i k = k (.inr j) := by
    intro l
    induction l with
    | nil => exact fun i u2 hd => ⟨(i : Int), fun k => rfl⟩
    | cons y l ih =>
      intro i u2 hd
      have hlt := vep hd
      obtain ⟨j, hj⟩ := ih (i + 1) u2 (vbb hd)
      have h1 := (vbx hd).1
      have h2 := (vbx hd).2
      refine ⟨j, fun k => ?_⟩
      simp only [vgs, h1, h2, show (0 : Int) ≤ (i : Int) by omega, show (i : Int) < (x.length : Int) by omega, and_self, if_true, vbm, Bool.not_true, cond_false, Int.toNat_natCast, hj, Ty.eqB, Bool.and_self]
  rw [v73 (by omega)]
  unfold v1b
  obtain ⟨j, hj⟩ := loop x 0 false rfl
  simp only [bne_self_eq_false, cond_false, hj, Sum.elim_inr]
end
end Go.VE
/- Plain laws: what is seen behind new versions; what who looks sees. -/
namespace Go.VE
noncomputable section
set_option linter.unusedVariables false
set_option linter.unusedSimpArgs false
set_option maxRecDepth 100000
theorem vua {l : List tVersion.D} {v : tVersion.D} {p : tVersion.D → Bool} (h : p v = false) : (insV l v).filter p = l.filter p := by
  unfold insV
  rw [List.filter_append, List.filter_cons, h]
  simp only [Bool.false_eq_true, if_false]
  rw [← List.filter_append, List.takeWhile_append_dropWhile]
theorem vhc {cs : Int} {p : tVersion.D → Bool} : ∀ {w : List tWrite.D} {l : List tVersion.D}, (∀ x ∈ w, p (vb3 cs x) = false) → (var l w cs).filter p = l.filter p
  | [], l, _ => rfl
  | x :: w, l, h => by
    show (var (insV l (vb3 cs x)) w cs).filter p = _
    rw [vhc fun y hy => h y (List.mem_cons_of_mem _ hy), vua (h x (List.mem_cons_self ..))]
/-- What is put with a greater number is not seen before. -/
theorem vlp {n : Nat} {l : List tVersion.D} (h : okZ n l) {w : List tWrite.D} (hw : okX 3 w) {cs snap : Int} (hc : (n : Int) < cs) (hs : snap < cs) (key : ByteArray) :
    vbh (var l w cs) key snap = vbh l key snap := by
  have hS : vcc (var l w cs) := vbv h.1 hw.1 fun y hy => .inl (Int.lt_of_le_of_lt (h.2.1 y hy).2 hc)
  rw [vga hS, vga h.1, vhc]
  intro x hx
  unfold atP
  rw [show decide (((vb3 cs x).2.2.2 : Int) ≤ snap) = false from decide_eq_false (Int.not_le.2 hs), Bool.and_false]
/-- What was put last is seen at its number. -/
theorem vwy {n : Nat} {l : List tVersion.D} (h : okZ n l) {w : List tWrite.D} (hw : okX 3 w) {cs : Int} (hc : (n : Int) < cs) {x : tWrite.D} (hx : x ∈ w) :
    vbh (var l w cs) x.1 cs = bif x.2.2 then (⟨#[]⟩, false) else (x.2.1, true) := by
  have hS : vcc (var l w cs) := vbv h.1 hw.1 fun y hy => .inl (Int.lt_of_le_of_lt (h.2.1 y hy).2 hc)
  rw [vga hS]
  have hp : atP x.1 cs (vb3 cs x) = true := by
    unfold atP
    rw [show vap (vb3 cs x).1 x.1 = true from vbm _, show decide (((vb3 cs x).2.2.2 : Int) ≤ cs) = true from decide_eq_true (Int.le_refl _)]; rfl
  have hl := vtd (m := (var l w cs).filter (atP x.1 cs)) (List.Pairwise.filter _ hS) (v := vb3 cs x) (List.mem_filter.2 ⟨vd1.2 (.inr ⟨x, hx, rfl⟩), hp⟩) fun y hy => by
    have := (List.mem_filter.1 hy).2
    unfold atP at this
    rw [Bool.and_eq_true, decide_eq_true_eq] at this
    exact ⟨vcg this.1, this.2⟩
  unfold v3i
  rw [hl]
  rfl
theorem vsg {n : Nat} (hn : n ≤ 40) {l : List tVersion.D} (h : okZ n l) {w : List tWrite.D} (hw : okX 3 w) {u0 : List Int} {u1 : Bool} : ∀ (m : List tWrite.D) (i : Nat), (∀ x ∈ m, x ∈ w) → ∃ j : Int, ∀ k,
    vi5 u0 u1 l w (var l w 50) m i k = k (.inr j)
  | [], i, _ => ⟨(i : Int), fun k => rfl⟩
  | x :: m, i, hm => by
    obtain ⟨j, hj⟩ := vsg hn h hw (u0 := u0) (u1 := u1) m (i + 1) (fun z hz => hm z (List.mem_cons_of_mem _ hz))
    have hx := hm x (List.mem_cons_self ..)
    have h1 := h.2.2
    have h2 := hw.2.2
    have hl : l.length ≤ 1048576 := by omega
    have hp : (var l w 50).length ≤ 1048576 := by rw [vbk]; omega
    refine ⟨j, fun k => ?_⟩
    simp only [vi5, vkd hl, vkd hp, vwy h hw (show (n : Int) < 50 by omega) hx, vlp h hw (show (n : Int) < 50 by omega) (show (49 : Int) < 50 by decide), vbm, beq_self_eq_true, Bool.not_true, cond_false, hj]
    cases hg : x.2.2 with
    | false => simp only [cond_false, vbm, Bool.not_true]; rfl
    | true =>
      have e : x.2.1 = ⟨#[]⟩ := vhj (hw.2.1 x hx) hg
      simp only [cond_true, e, vbm, Bool.not_true, cond_false]; rfl
theorem vnd {n : Nat} (hn : n ≤ 30) {l : List tVersion.D} (h : okZ n l) {w : List tWrite.D} (hw : okX 3 w) {cs : Int} (hc : (n : Int) < cs) (hc2 : cs ≤ 9999) : vdk (var l w cs) = true := by
  have h1 := h.2.2
  have h2 := hw.2.2
  refine vpc (vbv h.1 hw.1 fun y hy => .inl (Int.lt_of_le_of_lt (h.2.1 y hy).2 hc)) (fun y hy => ?_) (by rw [vbk]; omega)
  rcases vd1.1 hy with hy | ⟨x, hx, rfl⟩
  · exact (h.2.1 y hy).1
  · exact vqf (hw.2.1 x hx) (by omega) hc2
theorem vue {l : List tVersion.D} (ho : ∀ y ∈ l, vb5 y = true) (hl : l.length ≤ 1000) : (Ty.slice tVersion).wt l ≤ 1048576 := by
  have h1 := v36 (T := tVersion) (c := 40) (l := l) (fun y hy => by
    have := ho y hy
    unfold vb5 at this
    simp only [Bool.and_eq_true, decide_eq_true_eq] at this
    have hk := vw2 this.1.1.1
    have hv := this.1.1.2
    have e := vq6 y
    omega)
  rw [Ty.wt_slice]
  omega
theorem v67 {n : Nat} {l : List tVersion.D} (h : okZ n l) : ∀ y ∈ l, vb5 y = true := fun y hy => (h.2.1 y hy).1
end
end Go.VE
/- The plain laws. -/
namespace Go.VE
set_option linter.unusedVariables false
set_option linter.unusedSimpArgs false
set_option maxRecDepth 100000
theorem vx4 (x : (Ty.slice (.int .u8)).D) (hx : (Ty.slice (.int .u8)).wf x) (k : Bool → Option Res) : vsf x k = k true := by
  rw [v72]
  unfold v08
  rw [v6n]
  by_cases hl : (x.length : Int) > 1048576
  · simp only [hl, decide_true, cond_true]
  simp only [hl, decide_false, cond_false]
  obtain ⟨l, hL, e1⟩ := v7e (a0 := x) (by omega)
  obtain ⟨w, hW, e2⟩ := v8a (a0 := x) (by omega)
  obtain ⟨q, hQ, e3⟩ := v7f (a0 := x) (by omega)
  have h1 := hL.2.2
  have h2 := hW.2.2
  have ll : l.length ≤ 1048576 := by omega
  have lp : (var l w 50).length ≤ 1048576 := by rw [vbk]; omega
  obtain ⟨j, hj⟩ := vsg (n := 7) (by decide) hL hW (u0 := x) (u1 := false) w 0 (fun z hz => hz)
  have hok : vdk (var l w 50) = true := vnd (n := 7) (by decide) hL hW (by decide) (by decide)
  have hwt := vue (l := var l w 50) (fun y hy => by
    rcases vd1.1 hy with hy | ⟨z, hz, rfl⟩
    · exact v67 hL y hy
    · exact vqf (hW.2.1 z hz) (by decide) (by decide)) (by rw [vbk]; omega)
  have hS : vcc (var l w 50) := vbv hL.1 hW.1 fun y hy => .inl (Int.lt_of_le_of_lt (hL.2.1 y hy).2 (by decide))
  have hscan := fun r => v2y hS hL.1 (s := 49) (s' := 49) (fun key => vlp hL hW (show ((7 : Nat) : Int) < 50 by decide) (by decide) key) r
  have hsl := fun r => vm8 (x := vpr l r 49) (by have := vsd l r 49; omega)
  have hwr : IntKind.wrap .i64 ((l.length : Int) + (w.length : Int)) = ((var l w 50).length : Int) := by rw [vbk, vjw (by omega) (by omega)]; omega
  simp only [e1, e2, e3, v5z ll (show w.length ≤ 1048576 by omega), v2i (show w.length < 9223372036854775807 by omega), hj, Sum.elim_inr, vkd (show q.2.2.length ≤ 1048576 by omega), v5v (show q.2.2.length ≤ 1048576 by omega), v6o hwt, hok, cond_true, hwr, beq_self_eq_true, vbm, vyx, vv5, v0y lp, v0y ll, hscan, hsl]
end Go.VE
