/- The plain laws behind FnOwn. -/
import Derived.Test.YtiajamilfgkecaaFnOwnL
import Derived.Test.YtiajamilfgkecaaP3
import Derived.Test.YtiajamilfgkecaaU28
/- Plain laws: keys, ranges, writes, transactions, who is ahead of whom. -/
namespace Go.VE
noncomputable section
set_option linter.unusedVariables false
set_option linter.unusedSimpArgs false
set_option maxRecDepth 100000
def vpo (n lo hi : Int) : Bool := decide (n ≥ lo) && decide (n ≤ hi)
def vbf (r : tRange.D) (key : ByteArray) : Bool := !(vab key r.1) && (vab key r.2 || vao key r.2)
theorem v0i (r : tRange.D) (key) (k) : vks r key k = k (vbf r key) := by
  rw [vyq]; unfold vvk vbf; cases vab key r.1 <;> rfl
theorem v6t (r : tRange.D) (key) (k) : vo5 r key k = k (vbf r key) := by
  rw [v0j]; unfold vv0 vbf; cases vab key r.1 <;> rfl
def vl0 (s : ByteArray) : Bool := !((vej s).any fun y => decide (y < 97) || decide (y > 122)) && vpo s.size 1 3
def vch (w : tWrite.D) : Bool := vl0 w.1 && decide ((w.2.1.size : Int) ≤ 12) && (!w.2.2 || vao w.2.1 ⟨#[]⟩)
theorem v0l {a : tTxn.D} (ha : tTxn.wt a ≤ 1048576) : a.2.2.2.2.1.length ≤ 1048576 ∧ a.2.2.2.2.2.1.length ≤ 1048576 := by
  rw [v7w] at ha
  exact ⟨v47 (T := tRange) (by omega), v47 (T := tWrite) (by omega)⟩
end
end Go.VE
/- Plain laws: one of a list that passes a test; what is seen; the oldest. -/
namespace Go.VE
noncomputable section
set_option linter.unusedVariables false
set_option linter.unusedSimpArgs false
set_option maxRecDepth 100000
def zV : tVersion.D := Ty.zero tVersion
def vb1 (u0 : List tVersion.D) (key : ByteArray) (snap : Int) : List tVersion.D → Int → Nat → Int
  | [], s, _ => s
  | y :: l, s, i => bif vao y.1 key && (decide (y.2.2.2 ≤ snap) && (decide (s < 0) || decide (y.2.2.2 > (rd zV u0 s).2.2.2))) then vb1 u0 key snap l (i : Int) (i + 1) else vb1 u0 key snap l s (i + 1)
def vcu (xs : List tVersion.D) (key : ByteArray) (snap : Int) : Int := vb1 xs key snap xs (-1) 0
theorem vkn {u0 u1 u2} {u4} : ∀ (l : List tVersion.D) (s : Int) (i : Nat), u0.drop i = l → (s < 0 ∨ 0 ≤ s ∧ s < (u0.length : Int)) →
    ∃ j : Int, (∀ k, vdn u0 u1 u2 u4 l s i k = k (vb1 u0 u1 u2 l s i, j)) ∧ (vb1 u0 u1 u2 l s i < 0 ∨ 0 ≤ vb1 u0 u1 u2 l s i ∧ vb1 u0 u1 u2 l s i < (u0.length : Int))
  | [], s, i, _, hs => ⟨_, fun k => rfl, hs⟩
  | y :: l, s, i, h, hs => by
    have hlt := vcf h
    obtain ⟨j1, hj1, b1⟩ := vkn (u0 := u0) (u1 := u1) (u2 := u2) (u4 := u4) l s (i + 1) (val h) hs
    obtain ⟨j2, hj2, b2⟩ := vkn (u0 := u0) (u1 := u1) (u2 := u2) (u4 := u4) l (i : Int) (i + 1) (val h) (.inr (by omega))
    have hz : (Ty.zero tVersion) = zV := rfl
    simp only [vdn, hj1, hj2, vb1, hz]
    cases vao y.1 u1
    · exact ⟨j1, fun k => rfl, b1⟩
    · cases decide (y.2.2.2 ≤ u2)
      · exact ⟨j1, fun k => rfl, b1⟩
      · by_cases c : s < 0
        · simp only [c, decide_true, cond_true, Bool.true_or, Bool.and_self]; exact ⟨j2, fun k => rfl, b2⟩
        · simp only [c, decide_false, cond_true, cond_false, Bool.false_or, Bool.true_and]
          simp only [if_pos (show 0 ≤ s ∧ s < (u0.length : Int) by omega)]
          cases decide (y.2.2.2 > (rd zV u0 s).2.2.2)
          · exact ⟨j1, fun k => rfl, b1⟩
          · exact ⟨j2, fun k => rfl, b2⟩
theorem v50 {xs : List tVersion.D} (hl : xs.length ≤ 1048576) (key) (snap) (k) : vns xs key snap k = k (vcu xs key snap) := by
  rw [v8b (by omega)]
  unfold vz2 vcu
  obtain ⟨j, hj, _⟩ := vkn (u0 := xs) (u1 := key) (u2 := snap) (u4 := xs) xs (-1) 0 rfl (.inl (by omega))
  rw [hj]
theorem vkh {u0 u1 u2}  : ∀ (l : List tVersion.D) (s : Int) (i : Nat), u0.drop i = l → (s < 0 ∨ 0 ≤ s ∧ s < (u0.length : Int)) →
    ∃ j : Int, (∀ k, vdo u0 u1 u2  l s i k = k (vb1 u0 u1 u2 l s i, j)) ∧ (vb1 u0 u1 u2 l s i < 0 ∨ 0 ≤ vb1 u0 u1 u2 l s i ∧ vb1 u0 u1 u2 l s i < (u0.length : Int))
  | [], s, i, _, hs => ⟨_, fun k => rfl, hs⟩
  | y :: l, s, i, h, hs => by
    have hlt := vcf h
    obtain ⟨j1, hj1, b1⟩ := vkh (u0 := u0) (u1 := u1) (u2 := u2)  l s (i + 1) (val h) hs
    obtain ⟨j2, hj2, b2⟩ := vkh (u0 := u0) (u1 := u1) (u2 := u2)  l (i : Int) (i + 1) (val h) (.inr (by omega))
    have hz : (Ty.zero tVersion) = zV := rfl
    simp only [vdo, hj1, hj2, vb1, hz]
    cases vao y.1 u1
    · exact ⟨j1, fun k => rfl, b1⟩
    · cases decide (y.2.2.2 ≤ u2)
      · exact ⟨j1, fun k => rfl, b1⟩
      · by_cases c : s < 0
        · simp only [c, decide_true, cond_true, Bool.true_or, Bool.and_self]; exact ⟨j2, fun k => rfl, b2⟩
        · simp only [c, decide_false, cond_true, cond_false, Bool.false_or, Bool.true_and]
          simp only [if_pos (show 0 ≤ s ∧ s < (u0.length : Int) by omega)]
          cases decide (y.2.2.2 > (rd zV u0 s).2.2.2)
          · exact ⟨j1, fun k => rfl, b1⟩
          · exact ⟨j2, fun k => rfl, b2⟩
theorem v6j {xs : List tVersion.D} (hl : xs.length ≤ 1048576) (key) (snap) (k) : vn6 xs key snap k = k (vcu xs key snap) := by
  rw [v79 (by omega)]
  unfold vzz vcu
  obtain ⟨j, hj, _⟩ := vkh (u0 := xs) (u1 := key) (u2 := snap)  xs (-1) 0 rfl (.inl (by omega))
  rw [hj]
theorem vfp {u0 : List tVersion.D} {key : ByteArray} {snap : Int} : ∀ (l : List tVersion.D) (s : Int) (i : Nat), i + l.length ≤ u0.length → (s < 0 ∨ 0 ≤ s ∧ s < (u0.length : Int)) → (vb1 u0 key snap l s i < 0 ∨ 0 ≤ vb1 u0 key snap l s i ∧ vb1 u0 key snap l s i < (u0.length : Int))
  | [], s, i, _, hs => hs
  | y :: l, s, i, h, hs => by
    simp only [List.length_cons] at h
    simp only [vb1]
    cases (vao y.1 key && (decide (y.2.2.2 ≤ snap) && (decide (s < 0) || decide (y.2.2.2 > (rd zV u0 s).2.2.2))))
    · exact vfp l s (i + 1) (by omega) hs
    · exact vfp l (i : Int) (i + 1) (by omega) (.inr (by omega))
theorem vju (xs : List tVersion.D) (key : ByteArray) (snap : Int) : vcu xs key snap < 0 ∨ 0 ≤ vcu xs key snap ∧ vcu xs key snap < (xs.length : Int) :=
  vfp xs (-1) 0 (by omega) (.inl (by omega))
def vc9 (xs : List tVersion.D) (key : ByteArray) (snap : Int) : ByteArray × Bool :=
  bif decide (vcu xs key snap < 0) then (⟨#[]⟩, false) else bif (rd zV xs (vcu xs key snap)).2.2.1 then (⟨#[]⟩, false) else ((rd zV xs (vcu xs key snap)).2.1, true)
theorem vqj {xs : List tVersion.D} (hl : xs.length ≤ 1048576) (key) (snap) (k) : voe xs key snap k = k (vc9 xs key snap) := by
  have hb := vju xs key snap
  have hz : (Ty.zero tVersion) = zV := rfl
  rw [vys]
  unfold vw5 vc9
  simp only [v50 hl, hz]
  by_cases c : vcu xs key snap < 0
  · simp only [c, decide_true, cond_true]
  · simp only [c, decide_false, cond_false]
    rw [if_pos (by omega)]
    cases (rd zV xs (vcu xs key snap)).2.2.1
    · simp only [cond_false]; rw [if_pos (by omega)]
    · rfl
theorem v6a {xs : List tVersion.D} (hl : xs.length ≤ 1048576) (key) (snap) (k) : vn4 xs key snap k = k (vc9 xs key snap) := by
  have hb := vju xs key snap
  have hz : (Ty.zero tVersion) = zV := rfl
  rw [vy1]
  unfold vw2 vc9
  simp only [v6j hl, hz]
  by_cases c : vcu xs key snap < 0
  · simp only [c, decide_true, cond_true]
  · simp only [c, decide_false, cond_false]
    rw [if_pos (by omega)]
    cases (rd zV xs (vcu xs key snap)).2.2.1
    · simp only [cond_false]; rw [if_pos (by omega)]
    · rfl
def vbc (t : tTxn.D) (xs : List tVersion.D) (key : ByteArray) : ByteArray × Bool :=
  match t.2.2.2.2.2.1.find? fun w => vao w.1 key with
  | some w => bif w.2.2 then (⟨#[]⟩, false) else (w.2.1, true)
  | none => vc9 xs key t.2.2.1
theorem v5v (w : tWrite.D) (key) (k) : vnk w key k = k (vao w.1 key, key) := by rw [v0s]; rfl
theorem voz {u0 : List tWrite.D} {u1} {key : ByteArray} : ∀ (l : List tWrite.D) (i : Nat), u0.drop i = l →
    (∃ a : Nat, ∃ b : Int, (∀ k, vfw u0 u1 l key i k = k (.inl ((a : Int), b, key))) ∧ a < u0.length ∧ l.find? (fun w => vao w.1 key) = some (rd (Ty.zero tWrite) u0 (a : Int))) ∨
    (∃ b : Int, (∀ k, vfw u0 u1 l key i k = k (.inr (b, key))) ∧ l.find? (fun w => vao w.1 key) = none)
  | [], i, _ => .inr ⟨_, fun k => rfl, rfl⟩
  | y :: l, i, h => by
    have hlt := vcf h
    have hy := (va8 h).1 (Ty.zero tWrite)
    simp only [vfw, v5v, List.find?_cons]
    cases vao y.1 key
    · simp only [cond_false]; exact voz l (i + 1) (val h)
    · exact .inl ⟨i, _, fun k => rfl, hlt, by rw [hy]⟩
theorem vmm {t : tTxn.D} {xs : List tVersion.D} (ht : tTxn.wt t ≤ 1048576) (hl : xs.length ≤ 1048576) (key) (k) : vji t xs key k = k (vbc t xs key) := by
  have hlen := (v0l ht).2
  rw [vzk]
  unfold vu7
  rw [vze]
  unfold vwk vbc
  rw [v8m (by omega)]
  unfold vzj
  rcases voz (u0 := t.2.2.2.2.2.1) (u1 := 0) (key := key) t.2.2.2.2.2.1 0 rfl with ⟨a, b, h1, h2, h3⟩ | ⟨b, h1, h3⟩
  · rw [h1, h3]
    simp only [Sum.elim_inl, show decide ((a : Int) ≥ 0) = true by simp, cond_true]
    rw [if_pos (by omega)]
    cases (rd (Ty.zero tWrite) t.2.2.2.2.2.1 (a : Int)).2.2
    · simp only [cond_false]; rw [if_pos (by omega)]
    · rfl
  · rw [h1, h3]
    simp only [Sum.elim_inr, show decide ((-1 : Int) ≥ 0) = false by decide, cond_false, vqj hl, vdx]
theorem vot {u0 : List tVersion.D} {u1 u2 u3 u5 u6 u7 u8 u9 u10 u11 u12} : ∀ (l : List tWrite.D) (i : Nat),
    ∃ j : Int, ∀ k, vgs u0 u1 u2 u3 u5 u6 u7 u8 u9 u10 u11 u12 l i k = k (match l.find? (fun w => vao w.1 u1) with | some w => .inl (bif w.2.2 then (⟨#[]⟩, false, j) else (w.2.1, true, j)) | none => .inr j)
  | [], i => ⟨_, fun k => rfl⟩
  | y :: l, i => by
    obtain ⟨j, hj⟩ := vot (u0 := u0) (u1 := u1) (u2 := u2) (u3 := u3) (u5 := u5) (u6 := u6) (u7 := u7) (u8 := u8) (u9 := u9) (u10 := u10) (u11 := u11) (u12 := u12) l (i + 1)
    simp only [vgs, hj, List.find?_cons]
    cases vao y.1 u1
    · exact ⟨j, fun k => rfl⟩
    · cases hg : y.2.2
      · exact ⟨(i : Int), fun k => by simp [hg]⟩
      · exact ⟨(i : Int), fun k => by simp [hg]⟩
theorem v58 {t : tTxn.D} {xs : List tVersion.D} (hlen : t.2.2.2.2.2.1.length ≤ 1048576) (hl : xs.length ≤ 1048576) (key) (k) : vmi t xs key k = k (vbc t xs key) := by
  rw [v7y (by omega)]
  unfold v0o vbc
  obtain ⟨j, hj⟩ := vot (u0 := xs) (u1 := key) (u2 := ⟨#[]⟩) (u3 := false) (u5 := t.1) (u6 := t.2.1) (u7 := t.2.2.1) (u8 := t.2.2.2.1) (u9 := t.2.2.2.2.1) (u10 := t.2.2.2.2.2.1) (u11 := t.2.2.2.2.2.2.1) (u12 := t.2.2.2.2.2.2.2) t.2.2.2.2.2.1 0
  rw [hj]
  cases t.2.2.2.2.2.1.find? fun w => vao w.1 key with
  | none => simp only [Sum.elim_inr, v6a hl, vdx]
  | some w => cases hg : w.2.2 <;> simp [hg]
theorem vzc {t : tTxn.D} {xs : List tVersion.D} (ht : tTxn.wt t ≤ 1048576) (hl : xs.length ≤ 1048576) (key) (k) : vmi t xs key k = k (vbc t xs key) := v58 (v0l ht).2 hl key k
end
end Go.VE
/- Plain laws: where a name or an Id stands; a transaction's text. -/
namespace Go.VE
noncomputable section
set_option linter.unusedVariables false
set_option linter.unusedSimpArgs false
set_option maxRecDepth 100000
theorem vq0 {a b : ByteArray} (h : a.data.toList = b.data.toList) : a = b := by
  cases a; cases b; congr 1; exact Array.toList_inj.mp h
theorem vd6 {a b : ByteArray} (h : vao a b = true) : a = b := by
  rw [vhp, beq_iff_eq, ByteArray.toList_eq, ByteArray.toList_eq] at h
  exact vq0 h
theorem vxq {s : ByteArray} (h : vl0 s = true) : s.size ≤ 3 := by
  unfold vl0 vpo at h
  simp only [Bool.and_eq_true, decide_eq_true_eq] at h
  omega
end
end Go.VE
/- Plain laws of the draws: each gives, whatever the bytes. -/
namespace Go.VE
noncomputable section
set_option linter.unusedVariables false
set_option linter.unusedSimpArgs false
set_option maxRecDepth 100000
/-- A native program that hands on one value, of which this holds. -/
def Gives {α : Type} (F : (α → Option Res) → Option Res) (Q : α → Prop) : Prop := ∃ v, Q v ∧ ∀ k, F k = k v
theorem vaj {α : Type} {v : α} {Q : α → Prop} (h : Q v) : Gives (fun k => k v) Q := ⟨v, h, fun _ => rfl⟩
theorem Gives.bind {α β : Type} {F : (β → Option Res) → Option Res} {R : β → Prop} (hF : Gives F R) {H : β → (α → Option Res) → Option Res} {Q : α → Prop} (hH : ∀ v, R v → Gives (H v) Q) : Gives (fun k => F fun v => H v k) Q := by
  obtain ⟨v, h1, h2⟩ := hF
  obtain ⟨y, h3, h4⟩ := hH v h1
  exact ⟨y, h3, fun k => (h2 _).trans (h4 k)⟩
theorem va7 {α : Type} {c : Bool} {F G : (α → Option Res) → Option Res} {Q : α → Prop} (hF : c = true → Gives F Q) (hG : c = false → Gives G Q) : Gives (fun k => bif c then F k else G k) Q := by
  cases c
  · exact hG rfl
  · exact hF rfl
theorem vjm {α : Type} {c : Prop} [Decidable c] {F : (α → Option Res) → Option Res} {Q : α → Prop} (hc : c) (hF : Gives F Q) : Gives (fun k => if c then F k else none) Q := by
  simp only [hc, if_true]; exact hF
theorem vyv {α : Type} {c : Prop} [Decidable c] {F : (α → Option Res) → Option Res} {Q : α → Prop} (hc : ¬ c) (hF : Gives F Q) : Gives (fun k => if c then none else F k) Q := by
  simp only [hc, if_false]; exact hF
theorem vcm {β γ : Type} {b : β → (β ⊕ γ → Option Res) → Option Res} {x : β} {n : Nat} {Q : γ → Prop} (h : Gives (b x) (fun r => (∀ y, r = .inl y → Gives (vac b n y) Q) ∧ ∀ z, r = .inr z → Q z)) : Gives (vac b (n + 1) x) Q := by
  obtain ⟨v, h1, h2⟩ := h
  cases v with
  | inl y =>
    obtain ⟨w, h3, h4⟩ := h1.1 y rfl
    exact ⟨w, h3, fun k => by rw [vac, h2]; exact h4 k⟩
  | inr z => exact ⟨z, h1.2 z rfl, fun k => by rw [vac, h2]; rfl⟩
theorem vvb {β γ : Type} {Q : γ → Prop} {G : β → Prop} {y : β} (h : G y) : (∀ x, (Sum.inl y : β ⊕ γ) = .inl x → G x) ∧ ∀ z, (Sum.inl y : β ⊕ γ) = .inr z → Q z := ⟨fun _ e => by cases e; exact h, fun _ e => (nomatch e)⟩
theorem vjb {β γ : Type} {Q : γ → Prop} {G : β → Prop} {z : γ} (h : Q z) : (∀ x, (Sum.inr z : β ⊕ γ) = .inl x → G x) ∧ ∀ w, (Sum.inr z : β ⊕ γ) = .inr w → Q w := ⟨fun _ e => (nomatch e), fun _ e => by cases e; exact h⟩
theorem v7e : (⟨#[]⟩ : ByteArray).size ≤ 20 := by decide
def Dr (l : List Int) (p : Int) : Prop := l.length ≤ 1048576 ∧ 0 ≤ p
def okR (n : Nat) (l : List tRange.D) : Prop := l.length ≤ n ∧ ∀ y ∈ l, y.1.size ≤ 20 ∧ y.2.size ≤ 20
def okW (n : Nat) (l : List tWrite.D) : Prop := l.length ≤ n ∧ ∀ y ∈ l, y.1.size ≤ 20 ∧ y.2.1.size ≤ 20
theorem vph {n m : Nat} {l} (h : okR n l) (hm : n ≤ m) : okR m l := ⟨Nat.le_trans h.1 hm, h.2⟩
theorem vvl {n m : Nat} {l} (h : okW n l) (hm : n ≤ m) : okW m l := ⟨Nat.le_trans h.1 hm, h.2⟩
theorem v6f (n : Nat) : okR n [] := ⟨Nat.zero_le _, fun y hy => by cases hy⟩
theorem v6l (n : Nat) : okW n [] := ⟨Nat.zero_le _, fun y hy => by cases hy⟩
theorem v54 {a b : ByteArray} (ha : a.size ≤ 20) (hb : b.size ≤ 20) : okR 1 [(a, b)] := ⟨Nat.le_refl _, fun y hy => by rw [List.mem_singleton] at hy; rw [hy]; exact ⟨ha, hb⟩⟩
theorem vxd {n m : Nat} {a b} (ha : okR n a) (hb : okR m b) : okR (n + m) (a ++ b) :=
  ⟨by have := ha.1; have := hb.1; rw [List.length_append]; omega, fun y hy => (List.mem_append.mp hy).elim (ha.2 y) (hb.2 y)⟩
theorem v6y {α : Type} {d : α} {xs : List α} {i : Int} (h0 : 0 ≤ i) (h1 : i < (xs.length : Int)) : rd d xs i ∈ xs := by
  have h : i.toNat < xs.length := by omega
  have e : rd d xs i = xs[i.toNat] := by unfold rd; simp [List.getD, List.getElem?_eq_getElem h]
  rw [e]
  exact List.getElem_mem h
theorem vvn (v : BitVec (IntKind.bits .i64)) : 0 ≤ IntKind.wrap .i64 ((v &&& BitVec.ofInt (IntKind.bits .i64) (255 : Int)).toNat : Int) ∧ IntKind.wrap .i64 ((v &&& BitVec.ofInt (IntKind.bits .i64) (255 : Int)).toNat : Int) ≤ 255 := by
  have h : (v &&& BitVec.ofInt (IntKind.bits .i64) (255 : Int)).toNat ≤ 255 := by
    rw [BitVec.toNat_and]
    exact Nat.le_trans Nat.and_le_right (by decide)
  rw [vl6 (by omega) (by omega)]
  omega
theorem vz6 {a0 : List Int} (hl : a0.length ≤ 1048576) : ∀ (m : Nat) (i : Nat) (s : Int) (n : Nat), a0.length - i = m → m < n → Gives (vac viw n (a0, s, (i : Int))) (fun z => z.1 = a0) := by
  intro m
  induction m with
  | zero =>
    intro i s n hm hn
    obtain ⟨n, rfl⟩ : ∃ q, n = q + 1 := ⟨n - 1, by omega⟩
    apply vcm
    unfold viw
    refine va7 (fun c => by have c := of_decide_eq_true c; (first | dsimp only at c | skip); omega) (fun _ => vaj ?_)
    exact vjb rfl
  | succ m ih =>
    intro i s n hm hn
    obtain ⟨n, rfl⟩ : ∃ q, n = q + 1 := ⟨n - 1, by omega⟩
    apply vcm
    unfold viw
    refine va7 (fun c => va7 (fun _ => ?_) (fun _ => vaj ?_)) (fun _ => vaj ?_)
    · refine Gives.bind (R := fun z => z.1 = a0 ∧ z.2.2 = ((i + 1 : Nat) : Int)) ?_ (fun z hz => vaj ?_)
      · unfold vc2
        refine vjm ⟨by dsimp only; omega, by have c := of_decide_eq_true c; dsimp only at c ⊢; omega⟩ (vaj ⟨rfl, ?_⟩)
        exact vbe (by omega)
      · refine vvb ?_
        rw [hz.1, hz.2]
        exact ih (i + 1) _ n (by omega) (by omega)
    · exact vjb rfl
    · exact vjb rfl
theorem v5g {a0 : List Int} (hl : a0.length ≤ 1048576) : Gives (vnx a0) (fun z => Dr z.1 z.2.1) := by
  rw [vzh]
  unfold vwn
  refine Gives.bind (vz6 hl a0.length 0 _ Fuel rfl (by have := vbp; omega)) (fun z hz => vaj ?_)
  rw [hz]
  exact ⟨hl, Int.le_refl _⟩
theorem v8s {l : List Int} {p s : Int} (h : Dr l p) : Gives (vjx l p s) (fun y => 0 ≤ y.1 ∧ y.1 ≤ 255 ∧ Dr y.2.1 y.2.2.1) := by
  rw [vy4]
  unfold vvi
  have h1 := h.1
  have h2 := h.2
  refine va7 (fun c => vjm ⟨h2, of_decide_eq_true c⟩ (vaj ⟨(vvn _).1, (vvn _).2, h1, ?_⟩)) (fun _ => vaj ⟨(vvn _).1, (vvn _).2, h⟩)
  have c := of_decide_eq_true c
  show 0 ≤ IntKind.wrap .i64 (p + 1)
  rw [vl6 (by omega) (by omega)]
  omega
theorem vgi {n : Int} (h0 : 0 < n) (h1 : n ≤ 256) {l : List Int} {p s : Int} (h : Dr l p) : Gives (vfl n l p s) (fun y => 0 ≤ y.1 ∧ y.1 < n ∧ Dr y.2.1 y.2.2.1) := by
  rw [v0h]
  unfold vwe
  refine va7 (fun c => by have c := of_decide_eq_true c; (first | dsimp only at c | skip); omega) (fun _ => va7 (fun _ => ?_) (fun c => absurd h1 (of_decide_eq_false c)))
  refine (v8s h).bind (fun y hy => vyv (by omega) (vaj ⟨?_, ?_, hy.2.2⟩))
  · exact Int.tmod_nonneg _ hy.1
  · exact Int.tmod_lt_of_pos _ h0
theorem v01 {xs : List ByteArray} {Q : ByteArray → Prop} (hx : ∀ x ∈ xs, Q x) (h0 : 0 < xs.length) (h1 : xs.length ≤ 256) {l : List Int} {p s : Int} (h : Dr l p) : Gives (voi xs l p s) (fun y => Q y.1 ∧ Dr y.2.1 y.2.2.1) := by
  rw [vzb]
  unfold vu6
  refine (vgi (by omega) (by omega) h).bind (fun y hy => vjm ⟨hy.1, hy.2.1⟩ (vaj ⟨hx _ (v6y hy.1 hy.2.1), hy.2.2⟩))
theorem vyn {l : List Int} {p s : Int} (h : Dr l p) : Gives (vi7 l p s) (fun y => y.1.size ≤ 20 ∧ Dr y.2.1 y.2.2.1) := by
  rw [vw1]
  unfold vse
  exact (v01 (Q := fun x => x.size ≤ 20) (by decide) (by decide) (by decide) h).bind (fun y hy => vaj hy)
theorem vve {n : Int} (h0 : 0 < n) (h1 : n ≤ 256) {l : List Int} {p s : Int} (h : Dr l p) : Gives (vk4 n l p s) (fun y => Dr y.2.1 y.2.2.1) := by
  rw [v0p]
  unfold vwd
  exact (vgi h0 h1 h).bind (fun y hy => vaj hy.2.2)
theorem v75 {l : List Int} {p s : Int} (h : Dr l p) : Gives (vq1 l p s) (fun y => y.1.size ≤ 20 ∧ y.2.1.size ≤ 20 ∧ Dr y.2.2.1 y.2.2.2.1) := by
  rw [vyw]
  unfold vw3
  refine (vyn h).bind (fun y1 h1 => (vve (by decide) (by decide) h1.2).bind (fun y2 h2 => va7 (fun _ => vaj ⟨h1.1, h1.1, h2⟩) (fun _ => (vyn h2).bind (fun y3 h3 => va7 (fun _ => vaj ⟨h3.1, h1.1, h3.2⟩) (fun _ => vaj ⟨h1.1, h3.1, h3.2⟩)))))
theorem vz8 : ∀ (m i : Nat) (l : List Int) (p s : Int) (acc : List tRange.D) (n : Nat), i + m = 3 → m < n → okR i acc → Dr l p →
    Gives (vac vii n ((i : Int), l, p, s, acc)) (fun z => Dr z.2.1 z.2.2.1 ∧ okR 3 z.2.2.2.2) := by
  intro m
  induction m with
  | zero =>
    intro i l p s acc n hm hn ha h
    obtain ⟨n, rfl⟩ : ∃ q, n = q + 1 := ⟨n - 1, by omega⟩
    apply vcm
    unfold vii
    refine (vgi (by decide) (by decide) h).bind (fun y hy => va7 (fun c => by have c := of_decide_eq_true c; have := hy.2.1; dsimp only at c; omega) (fun _ => vaj (vjb ⟨hy.2.2, vph ha (by omega)⟩)))
  | succ m ih =>
    intro i l p s acc n hm hn ha h
    obtain ⟨n, rfl⟩ : ∃ q, n = q + 1 := ⟨n - 1, by omega⟩
    apply vcm
    unfold vii
    refine (vgi (by decide) (by decide) h).bind (fun y hy => va7 (fun c => (v75 hy.2.2).bind (fun y3 h3 => vjm ?_ (vaj (vvb ?_)))) (fun _ => vaj (vjb ⟨hy.2.2, vph ha (by omega)⟩)))
    · have := ha.1; simp only [List.length_cons, List.length_nil, VE.maxLen]; omega
    · have e : IntKind.wrap .i64 ((i : Int) + 1) = ((i + 1 : Nat) : Int) := vbe (by omega)
      simp only [e]
      exact ih (i + 1) _ _ _ _ n (by omega) (by omega) (vxd ha (v54 h3.1 h3.2.1)) h3.2.2
theorem v8f {l : List Int} {p s : Int} (h : Dr l p) : Gives (vrx l p s) (fun y => Dr y.1 y.2.1 ∧ okR 3 y.2.2.2) := by
  rw [vz1]
  unfold vw4
  exact (vz8 3 0 l p s [] Fuel rfl (by have := vbp; omega) (v6f _) h).bind (fun z hz => vaj hz)
/-- What a drawn transaction is: its Id, name, ranges and writes small; the draw goes on. -/
def OkT (y : Int × Int × Int × Int × Bool × ByteArray × List Int × Int × Int × List tRange.D × List tWrite.D) : Prop :=
  y.2.2.2.2.2.1.size ≤ 20 ∧ Dr y.2.2.2.2.2.2.1 y.2.2.2.2.2.2.2.1 ∧ okR 4 y.2.2.2.2.2.2.2.2.2.1 ∧ okW 65 y.2.2.2.2.2.2.2.2.2.2
theorem v1b {T : Ty} {c : Nat} : ∀ {l : List T.D}, (∀ y ∈ l, T.wt y ≤ c) → wtL T l ≤ c * l.length
  | [], _ => by simp [wtL]
  | y :: l, h => by
    have h1 := h y (by simp)
    have h2 := v1b (l := l) (fun z hz => h z (List.mem_cons_of_mem y hz))
    simp only [wtL, List.length_cons, Nat.mul_add]; omega
theorem vwx {a b c d : Int} {f : Bool} {n : ByteArray} {r : List tRange.D} {w : List tWrite.D} (hn : n.size ≤ 20) (hr : okR 4 r) (hw : okW 65 w) : tTxn.wt (a, (b, (c, (d, (r, (w, (f, n))))))) ≤ 1048576 := by
  have e := v7w (a, (b, (c, (d, (r, (w, (f, n)))))))
  have h1 := v1b (T := tRange) (c := 40) (l := r) (fun y hy => by have := hr.2 y hy; rw [v55]; omega)
  have h2 := v1b (T := tWrite) (c := 40) (l := w) (fun y hy => by have := hw.2 y hy; rw [v5r]; omega)
  rw [Ty.wt_slice, Ty.wt_slice] at e
  have := hr.1
  have := hw.1
  dsimp only at e
  omega
theorem v6c (l : List Int) (k) : vo3 l k = k (decide ((l.length : Int) > 1048576)) := by rw [vz5]; rfl
end
end Go.VE
/- Plain laws: versions, bases. -/
namespace Go.VE
noncomputable section
set_option linter.unusedVariables false
set_option linter.unusedSimpArgs false
set_option maxRecDepth 100000
def vj8 (v : tVersion.D) : Bool := vl0 v.1 && decide ((v.2.1.size : Int) ≤ 12) && (!v.2.2.1 || vao v.2.1 ⟨#[]⟩) && vpo v.2.2.2 1 9999
def vdv (x y : tVersion.D) : Bool := vab x.1 y.1 || (vao x.1 y.1 && decide (x.2.2.2 < y.2.2.2))
end
end Go.VE
/- Plain laws: keys in order; what a scan sees. -/
namespace Go.VE
noncomputable section
set_option linter.unusedVariables false
set_option linter.unusedSimpArgs false
set_option maxRecDepth 100000
/-! ### the order of texts -/
theorem vh0 (x y : ByteArray) : vab x y = decide (x.data.toList < y.data.toList) := by
  rw [vd5, ByteArray.toList_eq, ByteArray.toList_eq]
  exact Go.Proofs.bytesLess_eq _ _
theorem vcp (x : ByteArray) : vab x x = false := by
  rw [vh0]; exact decide_eq_false (List.lt_irrefl _)
theorem vc8 {x y z : ByteArray} (h1 : vab x y = true) (h2 : vab y z = true) : vab x z = true := by
  rw [vh0] at *
  exact decide_eq_true (List.lt_trans (of_decide_eq_true h1) (of_decide_eq_true h2))
theorem vt4 {x y : ByteArray} (h : vab x y = true) : vab y x = false := by
  cases h2 : vab y x
  · rfl
  · have := vc8 h h2
    rw [vcp] at this
    cases this
theorem veo {x y : ByteArray} (h1 : vab x y = false) (h2 : vab y x = false) : x = y := by
  rw [vh0] at *
  have a := List.not_lt.1 (of_decide_eq_false h1)
  have b := List.not_lt.1 (of_decide_eq_false h2)
  exact vq0 (List.le_antisymm b a)
theorem voc (x y : ByteArray) : vao x y = decide (x = y) := by
  cases h : vao x y
  · symm; apply decide_eq_false; intro e; rw [e, vbu] at h; cases h
  · symm; exact decide_eq_true (vd6 h)
def Asc (l : List ByteArray) : Prop := l.Pairwise fun a b => vab a b = true
theorem vug : ∀ {l m : List ByteArray}, Asc l → Asc m → (∀ x, x ∈ l ↔ x ∈ m) → l = m
  | [], [], _, _, _ => rfl
  | [], b :: m, _, _, h => by have := (h b).2 (by simp); cases this
  | a :: l, [], _, _, h => by have := (h a).1 (by simp); cases this
  | a :: l, b :: m, hl, hm, h => by
    obtain ⟨h1, h2⟩ := List.pairwise_cons.1 hl
    obtain ⟨h3, h4⟩ := List.pairwise_cons.1 hm
    have hab : a = b := by
      rcases List.mem_cons.1 ((h a).1 (by simp)) with e | e
      · exact e
      · rcases List.mem_cons.1 ((h b).2 (by simp)) with e2 | e2
        · exact e2.symm
        · have x1 := h3 a e
          have x2 := h1 b e2
          rw [vt4 x1] at x2
          cases x2
    subst hab
    rw [vug h2 h4 (fun x => ⟨fun hx => by
      rcases List.mem_cons.1 ((h x).1 (by simp [hx])) with e | e
      · subst e; have := h1 x hx; rw [vcp] at this; cases this
      · exact e, fun hx => by
      rcases List.mem_cons.1 ((h x).2 (by simp [hx])) with e | e
      · subst e; have := h3 x hx; rw [vcp] at this; cases this
      · exact e⟩)]
def ddT (p : ByteArray) : List ByteArray → List ByteArray
  | [] => []
  | y :: l => bif vao y p then ddT y l else y :: ddT y l
def dd : List ByteArray → List ByteArray
  | [] => []
  | a :: l => a :: ddT a l
theorem vy3 : ∀ (l : List ByteArray) (p : ByteArray), (p :: l).Pairwise (fun a b => vab b a = false) → Asc (p :: ddT p l) ∧ ∀ x, x ∈ p :: ddT p l ↔ x ∈ p :: l
  | [], p, _ => ⟨List.pairwise_singleton _ _, fun x => Iff.rfl⟩
  | y :: l, p, h => by
    obtain ⟨h1, h2⟩ := List.pairwise_cons.1 h
    obtain ⟨i1, i2⟩ := vy3 l y h2
    simp only [ddT]
    cases he : vao y p
    · have hne : y ≠ p := fun e => by rw [e, vbu] at he; cases he
      have hlt : vab p y = true := by
        cases hh : vab p y
        · exact absurd (veo (h1 y (by simp)) hh) hne
        · rfl
      refine ⟨List.pairwise_cons.2 ⟨fun x hx => ?_, i1⟩, fun x => ?_⟩
      · rcases List.mem_cons.1 hx with e | e
        · rw [e]; exact hlt
        · exact vc8 hlt ((List.pairwise_cons.1 i1).1 x e)
      · simp only [cond_false, List.mem_cons]
        have := i2 x
        simp only [List.mem_cons] at this
        rw [this]
    · have e := vd6 he
      subst e
      refine ⟨i1, fun x => ?_⟩
      simp only [cond_true]
      rw [i2 x]
      simp
theorem vrp {l : List ByteArray} (h : l.Pairwise fun a b => vab b a = false) : Asc (dd l) ∧ ∀ x, x ∈ dd l ↔ x ∈ l := by
  cases l with
  | nil => exact ⟨List.Pairwise.nil, fun x => Iff.rfl⟩
  | cons a l => exact vy3 l a h
theorem vgn (xs : List ByteArray) : (vdy xs).Pairwise (fun a b => vab b a = false) ∧ ∀ x, x ∈ vdy xs ↔ x ∈ xs := by
  unfold vdy
  constructor
  · rw [List.pairwise_map]
    have := List.pairwise_mergeSort (le := fun x y : List UInt8 => decide (x ≤ y)) (fun a b c h1 h2 => decide_eq_true (List.le_trans (of_decide_eq_true h1) (of_decide_eq_true h2))) (fun a b => by
      rcases List.le_total a b with h | h
      · simp [h]
      · simp [h]) (xs.map fun x => x.data.toList)
    refine this.imp ?_
    intro a b hab
    rw [vh0]
    exact decide_eq_false (List.not_lt.2 (of_decide_eq_true hab))
  · intro x
    have hp := List.mergeSort_perm (xs.map fun x => x.data.toList) (fun x y => decide (x ≤ y))
    simp only [List.mem_map, hp.mem_iff]
    constructor
    · rintro ⟨l, ⟨y, hy, rfl⟩, rfl⟩
      exact hy
    · intro hx
      exact ⟨x.data.toList, ⟨x, hx, rfl⟩, rfl⟩
def insK (out : List ByteArray) (k : ByteArray) : List ByteArray := (out.filter fun y => vab y k) ++ k :: out.filter fun y => !(vab y k || vao y k)
theorem vu8 {out : List ByteArray} (h : Asc out) (k : ByteArray) : Asc (insK out k) ∧ ∀ x, x ∈ insK out k ↔ x = k ∨ x ∈ out := by
  have gt : ∀ y, (!(vab y k || vao y k)) = true → vab k y = true := by
    intro y hy
    simp only [Bool.not_eq_true', Bool.or_eq_false_iff] at hy
    cases hh : vab k y
    · have := veo hy.1 hh
      rw [this, vbu] at hy
      cases hy.2
    · rfl
  constructor
  · unfold insK Asc
    rw [List.pairwise_append]
    refine ⟨List.Pairwise.filter _ h, List.pairwise_cons.2 ⟨fun x hx => gt x (List.mem_filter.1 hx).2, List.Pairwise.filter _ h⟩, fun a ha b hb => ?_⟩
    have ha' := (List.mem_filter.1 ha).2
    rcases List.mem_cons.1 hb with e | e
    · rw [e]; exact ha'
    · exact vc8 ha' (gt b (List.mem_filter.1 e).2)
  · intro x
    unfold insK
    simp only [List.mem_append, List.mem_cons, List.mem_filter]
    constructor
    · rintro (⟨h1, _⟩ | h1 | ⟨h1, _⟩)
      · exact .inr h1
      · exact .inl h1
      · exact .inr h1
    · rintro (h1 | h1)
      · exact .inr (.inl h1)
      · cases h2 : vab x k
        · cases h3 : vao x k
          · exact .inr (.inr ⟨h1, by simp [h2, h3]⟩)
          · exact .inr (.inl (vd6 h3))
        · exact .inl ⟨h1, rfl⟩
def vi6 (r : tRange.D) : List tVersion.D → List ByteArray → List ByteArray
  | [], out => out
  | v :: l, out => vi6 r l (bif vbf r v.1 then insK out v.1 else out)
theorem vfd (r : tRange.D) : ∀ (l : List tVersion.D) (out : List ByteArray), Asc out → Asc (vi6 r l out) ∧ ∀ x, x ∈ vi6 r l out ↔ x ∈ out ∨ (vbf r x = true ∧ x ∈ l.map fun v => v.1)
  | [], out, h => ⟨h, fun x => by simp [vi6]⟩
  | v :: l, out, h => by
    simp only [vi6]
    cases hr : vbf r v.1
    · obtain ⟨i1, i2⟩ := vfd r l out h
      refine ⟨i1, fun x => ?_⟩
      rw [cond_false, i2 x]
      simp only [List.map_cons, List.mem_cons]
      constructor
      · rintro (a | ⟨a, b⟩)
        · exact .inl a
        · exact .inr ⟨a, .inr b⟩
      · rintro (a | ⟨a, b | b⟩)
        · exact .inl a
        · rw [b, hr] at a; cases a
        · exact .inr ⟨a, b⟩
    · obtain ⟨j1, j2⟩ := vu8 h v.1
      obtain ⟨i1, i2⟩ := vfd r l (insK out v.1) j1
      refine ⟨i1, fun x => ?_⟩
      rw [cond_true, i2 x, j2 x]
      simp only [List.map_cons, List.mem_cons]
      constructor
      · rintro ((a | a) | ⟨a, b⟩)
        · exact .inr ⟨by rw [a]; exact hr, .inl a⟩
        · exact .inl a
        · exact .inr ⟨a, .inr b⟩
      · rintro (a | ⟨a, b | b⟩)
        · exact .inl (.inr a)
        · exact .inl (.inl b)
        · exact .inr ⟨a, b⟩
def vgj (l : List tVersion.D) : List ByteArray := dd (vdy (l.map fun v => v.1))
theorem vyo (r : tRange.D) (l : List tVersion.D) : (vgj l).filter (fun k => vbf r k) = vi6 r l [] := by
  obtain ⟨s1, s2⟩ := vgn (l.map fun v => v.1)
  obtain ⟨d1, d2⟩ := vrp s1
  obtain ⟨k1, k2⟩ := vfd r l [] List.Pairwise.nil
  refine vug (List.Pairwise.filter _ d1) k1 (fun x => ?_)
  rw [List.mem_filter, k2 x]
  unfold vgj
  rw [d2 x, s2 x]
  constructor
  · rintro ⟨a, b⟩; exact .inr ⟨b, a⟩
  · rintro (a | ⟨a, b⟩)
    · cases a
    · exact ⟨b, a⟩
end
end Go.VE
/- Plain laws: scans. -/
namespace Go.VE
noncomputable section
set_option linter.unusedVariables false
set_option linter.unusedSimpArgs false
set_option maxRecDepth 100000
theorem vjr {α : Type} (y : α) : ∀ (S : List α) (i : Nat), i < S.length → (S.set i y).take (i + 1) = S.take i ++ [y]
  | [], i, h => by simp at h
  | a :: S, 0, h => by simp
  | a :: S, i + 1, h => by
    have := vjr y S i (by simpa using h)
    simp only [List.set_cons_succ, List.take_succ_cons, this, List.cons_append]
theorem vlq {α : Type} (y : α) : ∀ (S : List α) (i n : Nat), i < n → (S.set i y).drop n = S.drop n
  | [], i, n, h => by simp
  | a :: S, 0, n + 1, h => by simp
  | a :: S, i + 1, n + 1, h => by simpa using vlq y S i n (by omega)
  | a :: S, i, 0, h => by omega
theorem vj3 {st : Nat} : ∀ (l S : List ByteArray) (i k2 q : Nat) (p : ByteArray), S.drop (st + k2) = l → 1 ≤ k2 → i + 1 ≤ st + k2 → st + k2 ≤ S.length → S.length ≤ 3000000 → l.length < q → S.getD (st + (k2 - 1)) (Ty.zero .str) = p →
    ∃ (i' : Nat) (k' : Int) (S' : List ByteArray), S'.length = S.length ∧ i' ≤ S'.length ∧ S'.take i' = S.take i ++ ddT p l ∧ ∀ K, vac vfv q ((i : Int), st, (k2 : Int), S) K = K ((i' : Int), st, k', S')
  | l, S, i, k2, 0, p, _, _, _, _, _, h, _ => by omega
  | [], S, i, k2, q + 1, p, hd, h1, hi, hs, hS, _, hp => by
    have hge : S.length ≤ st + k2 := by
      have := congrArg List.length hd
      rw [List.length_drop] at this
      simp at this
      omega
    refine ⟨i, (k2 : Int), S, rfl, by omega, by simp [ddT], fun K => ?_⟩
    simp only [vac, vfv, show ¬ (k2 : Int) < (S.length : Int) - (st : Int) by omega, decide_false, cond_false, Sum.elim_inr]
  | y :: l, S, i, k2, q + 1, p, hd, h1, hi, hs, hS, hq, hp => by
    have hlt := vcf hd
    have hy : S.getD (st + k2) (Ty.zero .str) = y := (va8 hd).2 _
    have w1 : IntKind.wrap .i64 ((k2 : Int) - 1) = ((k2 - 1 : Nat) : Int) := by rw [vl6 (by omega) (by omega)]; omega
    have w2 : IntKind.wrap .i64 ((k2 : Int) + 1) = ((k2 + 1 : Nat) : Int) := vbe (by omega)
    have w3 : IntKind.wrap .i64 ((i : Int) + 1) = ((i + 1 : Nat) : Int) := vbe (by omega)
    have c1 : (k2 : Int) < (S.length : Int) - (st : Int) := by omega
    have c2 : (0 : Int) ≤ (k2 : Int) := by omega
    have c3 : (0 : Int) ≤ ((k2 - 1 : Nat) : Int) := by omega
    have c4 : ((k2 - 1 : Nat) : Int) < (S.length : Int) - (st : Int) := by omega
    have c5 : (0 : Int) ≤ (i : Int) := by omega
    have c6 : (i : Int) < (S.length : Int) := by omega
    cases he : vao y p
    · obtain ⟨i', k', S', e1, e2, e3, e4⟩ := vj3 (st := st) l (S.set i y) (i + 1) (k2 + 1) q y (by rw [vlq y S i _ (by omega)]; exact val hd) (by omega) (by omega) (by rw [List.length_set]; omega) (by rw [List.length_set]; omega) (by simpa using hq)
        (by rw [show st + (k2 + 1 - 1) = st + k2 by omega]; rw [← hy]; simp only [List.getD, List.getElem?_set_ne (show i ≠ st + k2 by omega)])
      refine ⟨i', k', S', by rw [e1, List.length_set], e2, ?_, fun K => ?_⟩
      · rw [e3, vjr y S i (by omega), List.append_assoc]
        simp only [ddT, he, cond_false, List.singleton_append]
      · simp only [vac, vfv, c1, c2, c3, c4, c5, c6, w1, decide_true, cond_true, and_self, if_true, Int.toNat_natCast, hy, hp, he, Bool.not_false, Sum.elim_inl, w2, w3]
        exact e4 K
    · have hyp := vd6 he
      obtain ⟨i', k', S', e1, e2, e3, e4⟩ := vj3 (st := st) l S i (k2 + 1) q y (val hd) (by omega) (by omega) (by omega) hS (by simpa using hq) (by rw [show st + (k2 + 1 - 1) = st + k2 by omega]; exact hy)
      refine ⟨i', k', S', e1, e2, ?_, fun K => ?_⟩
      · rw [e3]
        simp only [ddT, he, cond_true]
      · simp only [vac, vfv, c1, c2, c3, c4, w1, decide_true, cond_true, and_self, if_true, Int.toNat_natCast, hy, hp, he, Bool.not_true, cond_false, Sum.elim_inl, w2]
        exact e4 K
theorem vod {T : List ByteArray} (hT : T.length ≤ 3000000) {r : List ByteArray} : ∀ (l : List ByteArray) (i q : Nat), T.drop i = l → 1 ≤ i → i ≤ T.length → l.length < q →
    (T = T.take i ++ ddT (T.getD (i - 1) (Ty.zero .str)) l ∧ ∃ j : Int, ∀ K, vac vez q ((i : Int), T, r) K = K (.inl (j, T, r))) ∨
      ∃ j : Int, ∀ K, vac vez q ((i : Int), T, r) K = K (.inr (j, T.take i ++ ddT (T.getD (i - 1) (Ty.zero .str)) l))
  | l, i, 0, _, _, _, h => by omega
  | [], i, q + 1, hd, h1, hi, _ => by
    have hge := vbi hd
    left
    have : T.take i = T := List.take_of_length_le (by omega)
    refine ⟨by rw [this]; simp [ddT], (i : Int), fun K => ?_⟩
    simp only [vac, vez, hge, decide_false, cond_false, Sum.elim_inr]
  | y :: l, i, q + 1, hd, h1, hi, hq => by
    have hlt := vcf hd
    have hy : T.getD i (Ty.zero .str) = y := (va8 hd).2 _
    have w1 : IntKind.wrap .i64 ((i : Int) - 1) = ((i - 1 : Nat) : Int) := by rw [vl6 (by omega) (by omega)]; omega
    have w2 : IntKind.wrap .i64 ((i : Int) + 1) = ((i + 1 : Nat) : Int) := vbe (by omega)
    have c1 : (i : Int) < (T.length : Int) := by omega
    have c2 : (0 : Int) ≤ (i : Int) := by omega
    have c3 : (0 : Int) ≤ ((i - 1 : Nat) : Int) := by omega
    have c4 : ((i - 1 : Nat) : Int) < (T.length : Int) := by omega
    have c5 : (i : Int) ≤ (T.length : Int) := by omega
    generalize hp : T.getD (i - 1) (Ty.zero .str) = p
    cases he : vao y p
    · have htk : T.take (i + 1) = T.take i ++ [y] := by
        rw [List.take_succ_eq_append_getElem hlt]
        congr 2
        rw [← hy]
        simp [List.getD, hlt]
      have ih := vod hT (r := r) l (i + 1) q (val hd) (by omega) (by omega) (by simpa using hq)
      rw [show i + 1 - 1 = i by omega, hy, htk, List.append_assoc, List.singleton_append] at ih
      have hdd : ddT p (y :: l) = y :: ddT y l := by simp only [ddT, he, cond_false]
      rw [hdd]
      rcases ih with ⟨e, j, hj⟩ | ⟨j, hj⟩
      · left
        refine ⟨e, j, fun K => ?_⟩
        simp only [vac, vez, c1, c2, c3, c4, w1, decide_true, cond_true, and_self, if_true, Int.toNat_natCast, hy, hp, he, cond_false, Sum.elim_inl, w2]
        exact hj K
      · right
        refine ⟨j, fun K => ?_⟩
        simp only [vac, vez, c1, c2, c3, c4, w1, decide_true, cond_true, and_self, if_true, Int.toNat_natCast, hy, hp, he, cond_false, Sum.elim_inl, w2]
        exact hj K
    · right
      obtain ⟨i', k', S', e1, e2, e3, e4⟩ := vj3 (st := i) l T i 1 Fuel y (val hd) (by omega) (by omega) (by omega) hT (by have := vbp; have := congrArg List.length hd; rw [List.length_drop] at this; simp only [List.length_cons] at this; omega) (by rw [show i + (1 - 1) = i by omega]; exact hy)
      have hdd : ddT p (y :: l) = ddT y l := by simp only [ddT, he, cond_true]
      rw [hdd]
      refine ⟨(i' : Int), fun K => ?_⟩
      have e4' : ∀ K, vac vfv Fuel ((i : Int), i, (1 : Int), T) K = K ((i' : Int), i, k', S') := e4
      have d1 : (0 : Int) ≤ (i' : Int) := by omega
      have d2 : (i' : Int) ≤ (S'.length : Int) := by omega
      have d3 : (i' : Int) ≤ ((S'.take i' ++ List.replicate (S'.length - i') (Ty.zero .str)).length : Int) := by
        rw [List.length_append, List.length_take, List.length_replicate]; omega
      have d4 : (S'.take i' ++ List.replicate (S'.length - i') (Ty.zero .str)).take i' = S'.take i' := by
        rw [List.take_append_of_le_length (by rw [List.length_take]; omega), List.take_take, Nat.min_self]
      rw [← e3]
      simp only [vac, vez, c1, c2, c3, c4, c5, w1, decide_true, cond_true, and_self, if_true, Int.toNat_natCast, hy, hp, he, e4', d1, d2, d3, d4, Sum.elim_inr]
theorem vfb {T : List ByteArray} (hT : T.length ≤ 3000000) : (∀ k, vje T k = k (.inl (dd T))) ∨ (∀ k, vje T k = k (.inr (dd T))) := by
  rw [vzi]
  unfold vvz
  match T, hT with
  | [], _ => exact .inl fun k => rfl
  | [a], _ => exact .inl fun k => rfl
  | a :: b :: l, hT =>
    have hn : ¬ (((a :: b :: l).length : Int) < 2) := by simp only [List.length_cons]; omega
    have h := vod hT (r := []) (b :: l) 1 Fuel rfl (by omega) (by simp) (by have := vbp; simp only [List.length_cons] at hT ⊢; omega)
    have hd : (a :: b :: l).take 1 ++ ddT ((a :: b :: l).getD (1 - 1) (Ty.zero .str)) (b :: l) = dd (a :: b :: l) := rfl
    rw [hd] at h
    have h1 : ((1 : Nat) : Int) = 1 := rfl
    rw [h1] at h
    simp only [hn, decide_false, cond_false]
    rcases h with ⟨e, j, hj⟩ | ⟨j, hj⟩
    · left
      intro k
      rw [hj]
      simp only [Sum.elim_inl]
      rw [← e]
    · right
      intro k
      rw [hj]
      rfl
theorem vnn {u0} : ∀ (l : List tVersion.D) (s : List ByteArray) (i : Nat), s.length + l.length ≤ 3000000 → ∃ j : Int, ∀ k, vft u0 l s i k = k (j, s ++ l.map fun v => v.1)
  | [], s, i, _ => ⟨_, fun k => by simp [vft]; rfl⟩
  | y :: l, s, i, h => by
    simp only [List.length_cons] at h
    obtain ⟨j, hj⟩ := vnn (u0 := u0) l (s ++ [y.1]) (i + 1) (by simp; omega)
    refine ⟨j, fun k => ?_⟩
    have hm : s.length + [y.1].length ≤ VE.maxLen := by show _ ≤ 4294967296; simp; omega
    simp only [vft, if_pos hm, hj, List.map_cons, List.append_assoc, List.singleton_append]
theorem v0n {l : List tVersion.D} (hl : l.length ≤ 1048576) (k) : vk3 l k = k (vgj l) := by
  rw [v7f (by omega)]
  unfold vym
  obtain ⟨j, hj⟩ := vnn (u0 := l) l [] 0 (by simp; omega)
  have hs : ∀ xs : List ByteArray, xs.length ≤ 1000000000 → ∀ k, vjg xs k = k (vdy xs) := fun xs h k => by
    rw [vwt]
    unfold vop
    rw [if_pos h]
  rw [hj]
  simp only [List.nil_append]
  rw [hs _ (by rw [List.length_map]; omega)]
  rcases vfb (T := vdy (l.map fun v => v.1)) (by rw [vdi, List.length_map]; omega) with h | h <;> rw [h] <;> rfl
end
end Go.VE
/- Plain laws: what scans see. -/
namespace Go.VE
noncomputable section
set_option linter.unusedVariables false
set_option linter.unusedSimpArgs false
set_option maxRecDepth 100000
theorem vu1 {u0 : List tVersion.D} {u1 : Int} {ky r1 r2 : ByteArray} {out : List ByteArray} (ho : out.length ≤ 1048576) : ∀ (l acc : List ByteArray) (j q : Nat), out.drop j = l → l.length < q → acc.length + l.length ≤ 3000000 → ∃ j' : Int, ∀ K,
    vac vgr q (u0, u1, ky, (j : Int), r1, r2, out, acc) K = K (u0, u1, ky, j', r1, r2, out, acc ++ l.filter fun y => vab y ky)
  | l, acc, j, 0, _, h, _ => by omega
  | [], acc, j, q + 1, hd, _, _ => by
    have hge := vbi hd
    refine ⟨(j : Int), fun K => ?_⟩
    simp only [vac, vgr, hge, decide_false, cond_false, Sum.elim_inr, List.filter_nil, List.append_nil]
  | y :: l, acc, j, q + 1, hd, hq, ha => by
    simp only [List.length_cons] at ha
    have hlt := vcf hd
    have hy : out.getD j (Ty.zero .str) = y := (va8 hd).2 _
    have w : IntKind.wrap .i64 ((j : Int) + 1) = ((j + 1 : Nat) : Int) := vbe (by omega)
    have c1 : (j : Int) < (out.length : Int) := by omega
    have c2 : (0 : Int) ≤ (j : Int) := by omega
    have hm : acc.length + [y].length ≤ VE.maxLen := by show _ ≤ 4294967296; simp; omega
    cases he : vab y ky
    · obtain ⟨j', hj⟩ := vu1 (u0 := u0) (u1 := u1) (ky := ky) (r1 := r1) (r2 := r2) ho l acc (j + 1) q (val hd) (by simpa using hq) (by omega)
      refine ⟨j', fun K => ?_⟩
      simp only [vac, vgr, c1, c2, decide_true, cond_true, and_self, if_true, Int.toNat_natCast, hy, he, cond_false, Sum.elim_inl, w, List.filter_cons]
      exact hj K
    · obtain ⟨j', hj⟩ := vu1 (u0 := u0) (u1 := u1) (ky := ky) (r1 := r1) (r2 := r2) ho l (acc ++ [y]) (j + 1) q (val hd) (by simpa using hq) (by simp; omega)
      refine ⟨j', fun K => ?_⟩
      simp only [vac, vgr, c1, c2, decide_true, cond_true, and_self, if_true, Int.toNat_natCast, hy, he, if_pos hm, Sum.elim_inl, w, List.filter_cons]
      rw [hj K, List.append_assoc, List.singleton_append]
theorem vuv {u0 : List tVersion.D} {u1 : Int} {ky r1 r2 : ByteArray} {out : List ByteArray} (ho : out.length ≤ 1048576) : ∀ (l acc : List ByteArray) (j q : Nat), out.drop j = l → l.length < q → acc.length + l.length ≤ 3000000 → ∃ j' : Int, ∀ K,
    vac vgq q (u0, u1, ky, (j : Int), r1, r2, out, acc) K = K (u0, u1, ky, j', r1, r2, out, acc ++ l.filter fun y => !(vab y ky || vao y ky))
  | l, acc, j, 0, _, h, _ => by omega
  | [], acc, j, q + 1, hd, _, _ => by
    have hge := vbi hd
    refine ⟨(j : Int), fun K => ?_⟩
    simp only [vac, vgq, hge, decide_false, cond_false, Sum.elim_inr, List.filter_nil, List.append_nil]
  | y :: l, acc, j, q + 1, hd, hq, ha => by
    simp only [List.length_cons] at ha
    have hlt := vcf hd
    have hy : out.getD j (Ty.zero .str) = y := (va8 hd).2 _
    have w : IntKind.wrap .i64 ((j : Int) + 1) = ((j + 1 : Nat) : Int) := vbe (by omega)
    have c1 : (j : Int) < (out.length : Int) := by omega
    have c2 : (0 : Int) ≤ (j : Int) := by omega
    have hm : acc.length + [y].length ≤ VE.maxLen := by show _ ≤ 4294967296; simp; omega
    cases he : (!(vab y ky || vao y ky))
    · obtain ⟨j', hj⟩ := vuv (u0 := u0) (u1 := u1) (ky := ky) (r1 := r1) (r2 := r2) ho l acc (j + 1) q (val hd) (by simpa using hq) (by omega)
      refine ⟨j', fun K => ?_⟩
      simp only [vac, vgq, c1, c2, decide_true, cond_true, and_self, if_true, Int.toNat_natCast, hy, he, cond_false, Sum.elim_inl, w, List.filter_cons]
      exact hj K
    · obtain ⟨j', hj⟩ := vuv (u0 := u0) (u1 := u1) (ky := ky) (r1 := r1) (r2 := r2) ho l (acc ++ [y]) (j + 1) q (val hd) (by simpa using hq) (by simp; omega)
      refine ⟨j', fun K => ?_⟩
      simp only [vac, vgq, c1, c2, decide_true, cond_true, and_self, if_true, Int.toNat_natCast, hy, he, if_pos hm, Sum.elim_inl, w, List.filter_cons]
      rw [hj K, List.append_assoc, List.singleton_append]
/-- An ascending list of keys out of others is no longer than they. -/
theorem vh1 : ∀ {l m : List ByteArray}, Asc l → (∀ x ∈ l, x ∈ m) → l.length ≤ m.length := by
  intro l m h hm
  have nd : l.Nodup := by
    refine List.Pairwise.imp ?_ h
    intro a b hab e
    rw [e, vcp] at hab
    cases hab
  exact List.Nodup.length_le_of_subset nd hm
theorem vun {u0 : List tVersion.D} (hu : u0.length ≤ 1048576) {r : tRange.D} : ∀ (l : List tVersion.D) (out : List ByteArray) (i q : Nat), u0.drop i = l → l.length < q → Asc out → (∀ x ∈ out, x ∈ u0.map fun v => v.1) → ∃ j : Int, ∀ K,
    vac vhc q (u0, (i : Int), r.1, r.2, out) K = K (u0, j, r.1, r.2, vi6 r l out)
  | l, out, i, 0, _, h, _, _ => by omega
  | [], out, i, q + 1, hd, _, _, _ => by
    have hge := vbi hd
    refine ⟨(i : Int), fun K => ?_⟩
    simp only [vac, vhc, hge, decide_false, cond_false, Sum.elim_inr, vi6]
  | y :: l, out, i, q + 1, hd, hq, ha, hsub => by
    have hlt := vcf hd
    have hy : rd (Ty.zero tVersion) u0 (i : Int) = y := (va8 hd).1 _
    have w : IntKind.wrap .i64 ((i : Int) + 1) = ((i + 1 : Nat) : Int) := vbe (by omega)
    have c1 : (i : Int) < (u0.length : Int) := by omega
    have c2 : (0 : Int) ≤ (i : Int) := by omega
    have hol : out.length ≤ 1048576 := by
      have := vh1 ha hsub
      rw [List.length_map] at this
      omega
    have hin : ∀ k, vo5 (r.1, r.2) y.1 k = k (vbf r y.1) := fun k => v6t r y.1 k
    simp only [vi6]
    cases hr : vbf r y.1
    · obtain ⟨j, hj⟩ := vun hu (r := r) l out (i + 1) q (val hd) (by simpa using hq) ha hsub
      refine ⟨j, fun K => ?_⟩
      simp only [vac, vhc, c1, c2, decide_true, cond_true, and_self, if_true, hy, hin, hr, Bool.not_false, Sum.elim_inl, w, cond_false]
      exact hj K
    · obtain ⟨j1, h1⟩ := vu1 (u0 := u0) (u1 := (i : Int)) (ky := y.1) (r1 := r.1) (r2 := r.2) (out := out) (by omega) out [] 0 Fuel rfl (Nat.lt_of_lt_of_le (by omega) vbp) (by simp; omega)
      have hfl := List.length_filter_le (fun z => vab z y.1) out
      obtain ⟨j2, h2⟩ := vuv (u0 := u0) (u1 := (i : Int)) (ky := y.1) (r1 := r.1) (r2 := r.2) (out := out) (by omega) out ((out.filter fun z => vab z y.1) ++ [y.1]) 0 Fuel rfl (Nat.lt_of_lt_of_le (by omega) vbp) (by simp; omega)
      have hz : ((0 : Nat) : Int) = 0 := rfl
      rw [hz] at h1 h2
      obtain ⟨a1, a2⟩ := vu8 ha y.1
      obtain ⟨j, hj⟩ := vun hu (r := r) l (insK out y.1) (i + 1) q (val hd) (by simpa using hq) a1 (fun x hx => by
        rcases (a2 x).1 hx with e | e
        · rw [e]; exact List.mem_map.2 ⟨y, vmh hd, rfl⟩
        · exact hsub x e)
      refine ⟨j, fun K => ?_⟩
      have hm : (out.filter fun z => vab z y.1).length + [y.1].length ≤ VE.maxLen := by show _ ≤ 4294967296; simp only [List.length_singleton]; omega
      simp only [vac, vhc, c1, c2, decide_true, cond_true, and_self, if_true, hy, hin, hr, Bool.not_true, cond_false, h1, List.nil_append, if_pos hm, h2, Sum.elim_inl, w]
      have e : (out.filter fun z => vab z y.1) ++ [y.1] ++ (out.filter fun z => !(vab z y.1 || vao z y.1)) = insK out y.1 := by unfold insK; rw [List.append_assoc, List.singleton_append]
      rw [e]
      exact hj K
theorem v5w {l : List tVersion.D} (hl : l.length ≤ 1048576) (r : tRange.D) (k) : voh l r k = k (vi6 r l []) := by
  rw [v0u]
  unfold vv7
  obtain ⟨j, hj⟩ := vun hl (r := r) l [] 0 Fuel rfl (Nat.lt_of_lt_of_le (by omega) vbp) List.Pairwise.nil (fun x h => by cases h)
  have hz : ((0 : Nat) : Int) = 0 := rfl
  rw [hz] at hj
  rw [hj]
def seeF (l : List tVersion.D) (snap : Int) (k : ByteArray) : Option tRange.D := bif (vc9 l k snap).2 then some (k, (vc9 l k snap).1) else none
def seeI (l : List tVersion.D) (r : tRange.D) (snap : Int) (k : ByteArray) : Option tRange.D := bif (vc9 l k snap).2 && vbf r k then some (k, (vc9 l k snap).1) else none
theorem vi9 {u0 : List tVersion.D} (hu : u0.length ≤ 1048576) {snap : Int} {r : tRange.D} {ks : List ByteArray} (hk : ks.length ≤ 1048576) : ∀ (l : List ByteArray) (out : List tRange.D) (i q : Nat), ks.drop i = l → l.length < q → out.length + l.length ≤ 3000000 → ∃ j : Int, ∀ K,
    vac vfz q (u0, snap, (ks.length : Int), (i : Int), r.1, r.2, out, ks) K = K (u0, snap, (ks.length : Int), j, r.1, r.2, out ++ l.filterMap (seeI u0 r snap), ks)
  | l, out, i, 0, _, h, _ => by omega
  | [], out, i, q + 1, hd, _, _ => by
    have hge := vbi hd
    refine ⟨(i : Int), fun K => ?_⟩
    simp only [vac, vfz, hge, decide_false, cond_false, Sum.elim_inr, List.filterMap_nil, List.append_nil]
  | y :: l, out, i, q + 1, hd, hq, ha => by
    simp only [List.length_cons] at ha
    have hlt := vcf hd
    have hy : ks.getD i (Ty.zero .str) = y := (va8 hd).2 _
    have w : IntKind.wrap .i64 ((i : Int) + 1) = ((i + 1 : Nat) : Int) := vbe (by omega)
    have c1 : (i : Int) < (ks.length : Int) := by omega
    have c2 : (0 : Int) ≤ (i : Int) := by omega
    have hin : ∀ k, vks (r.1, r.2) y k = k (vbf r y) := fun k => v0i r y k
    cases he : (vc9 u0 y snap).2
    · obtain ⟨j, hj⟩ := vi9 hu (snap := snap) (r := r) hk l out (i + 1) q (val hd) (by simpa using hq) (by omega)
      refine ⟨j, fun K => ?_⟩
      simp only [vac, vfz, c1, c2, decide_true, cond_true, and_self, if_true, Int.toNat_natCast, hy, vqj hu, he, cond_false, Sum.elim_inl, w, List.filterMap_cons, seeI, Bool.false_and]
      exact hj K
    · cases hr : vbf r y
      · obtain ⟨j, hj⟩ := vi9 hu (snap := snap) (r := r) hk l out (i + 1) q (val hd) (by simpa using hq) (by omega)
        refine ⟨j, fun K => ?_⟩
        simp only [vac, vfz, c1, c2, decide_true, cond_true, and_self, if_true, Int.toNat_natCast, hy, vqj hu, he, hin, hr, cond_false, Sum.elim_inl, w, List.filterMap_cons, seeI, Bool.true_and]
        exact hj K
      · have hm : out.length + [(y, (vc9 u0 y snap).1)].length ≤ VE.maxLen := by show _ ≤ 4294967296; simp; omega
        obtain ⟨j, hj⟩ := vi9 hu (snap := snap) (r := r) hk l (out ++ [(y, (vc9 u0 y snap).1)]) (i + 1) q (val hd) (by simpa using hq) (by simp; omega)
        refine ⟨j, fun K => ?_⟩
        simp only [vac, vfz, c1, c2, decide_true, cond_true, and_self, if_true, Int.toNat_natCast, hy, vqj hu, he, hin, hr, if_pos hm, Sum.elim_inl, w, List.filterMap_cons, seeI, Bool.true_and]
        rw [hj K, List.append_assoc, List.singleton_append]
def vrt (l : List tVersion.D) (r : tRange.D) (snap : Int) : List tRange.D := (vi6 r l []).filterMap (seeF l snap)
theorem filterMap_filter' {α β : Type} (p : α → Bool) (f : α → Option β) : ∀ l : List α, l.filterMap (fun x => bif p x then f x else none) = (l.filter p).filterMap f
  | [] => rfl
  | x :: l => by
    simp only [List.filterMap_cons, List.filter_cons, filterMap_filter' p f l]
    cases p x <;> rfl
theorem v06 (l : List tVersion.D) (r : tRange.D) (snap : Int) : (vgj l).filterMap (seeI l r snap) = vrt l r snap := by
  unfold vrt
  rw [← vyo, ← filterMap_filter']
  congr 1
  funext k
  unfold seeI seeF
  cases vbf r k <;> cases (vc9 l k snap).2 <;> rfl
theorem vhh {l : List tVersion.D} (r : tRange.D) : (vi6 r l []).length ≤ l.length := by
  obtain ⟨k1, k2⟩ := vfd r l [] List.Pairwise.nil
  have := vh1 (m := l.map fun v => v.1) k1 (fun x hx => by
    rcases (k2 x).1 hx with e | e
    · cases e
    · exact e.2)
  rw [List.length_map] at this
  exact this
theorem vkq (l : List tVersion.D) : (vgj l).length ≤ l.length := by
  obtain ⟨s1, s2⟩ := vgn (l.map fun v => v.1)
  obtain ⟨d1, d2⟩ := vrp s1
  have := vh1 (m := l.map fun v => v.1) d1 (fun x hx => (s2 x).1 ((d2 x).1 hx))
  rw [List.length_map] at this
  exact this
theorem vrk (l : List tVersion.D) (r : tRange.D) (snap : Int) : (vrt l r snap).length ≤ l.length := by
  unfold vrt
  exact Nat.le_trans (List.length_filterMap_le _ _) (vhh r)
theorem v6i {l : List tVersion.D} (hl : l.length ≤ 1048576) (r : tRange.D) (snap : Int) (k) : vol l r snap k = k (vrt l r snap) := by
  rw [v0q]
  unfold vww
  have hk := vkq l
  obtain ⟨j, hj⟩ := vi9 (u0 := l) (by omega) (snap := snap) (r := r) (ks := vgj l) (by omega) _ [] 0 Fuel rfl (Nat.lt_of_lt_of_le (by rw [List.drop_zero]; omega) vbp) (by simp; omega)
  have hz : ((0 : Nat) : Int) = 0 := rfl
  rw [hz] at hj
  simp only [v0n (show l.length ≤ 1048576 by omega), hj, List.nil_append, List.drop_zero]
  exact congrArg k (v06 l r snap)
end
end Go.VE
/- Plain laws: two lists of versions that look alike from a number on. -/
namespace Go.VE
noncomputable section
set_option linter.unusedVariables false
set_option linter.unusedSimpArgs false
set_option maxRecDepth 100000
def allR : tRange.D := ((⟨#[97]⟩ : ByteArray), (⟨#[122, 122, 122]⟩ : ByteArray))
end
end Go.VE
/- Plain laws: what an own scan sees. -/
namespace Go.VE
noncomputable section
set_option linter.unusedVariables false
set_option linter.unusedSimpArgs false
set_option maxRecDepth 100000
def asV (w : tWrite.D) : tVersion.D := (w.1, ((⟨#[]⟩ : ByteArray), (false, (0 : Int))))
theorem vn1 {u0 u2 u3 u4 u5 u6 u7 u8 u9 u10 u11} : ∀ (l : List tWrite.D) (s : List tVersion.D) (i : Nat), s.length + l.length ≤ 3000000 → ∃ j : Int, ∀ k, vf4 u0 u2 u3 u4 u5 u6 u7 u8 u9 u10 u11 l s i k = k (j, s ++ l.map asV)
  | [], s, i, _ => ⟨_, fun k => by simp [vf4]; rfl⟩
  | y :: l, s, i, h => by
    simp only [List.length_cons] at h
    obtain ⟨j, hj⟩ := vn1 (u0 := u0) (u2 := u2) (u3 := u3) (u4 := u4) (u5 := u5) (u6 := u6) (u7 := u7) (u8 := u8) (u9 := u9) (u10 := u10) (u11 := u11) l (s ++ [asV y]) (i + 1) (by simp; omega)
    refine ⟨j, fun k => ?_⟩
    have hm : s.length + [asV y].length ≤ VE.maxLen := by show _ ≤ 4294967296; simp; omega
    have e := hj k
    rw [List.append_assoc, List.singleton_append] at e
    simp only [vf4, List.map_cons]
    rw [← e]
    exact if_pos hm
theorem vou {u0 u1 u4 u5 u6 u7 u8 u9 u10 u11 u12 u13} : ∀ (l : List tWrite.D) (s : List ByteArray) (i : Nat), s.length + l.length ≤ 3000000 → ∃ j : Int, ∀ k, vf1 u0 u1 u4 u5 u6 u7 u8 u9 u10 u11 u12 u13 l s i k = k (j, s ++ l.map fun w => w.1)
  | [], s, i, _ => ⟨_, fun k => by simp [vf1]; rfl⟩
  | y :: l, s, i, h => by
    simp only [List.length_cons] at h
    obtain ⟨j, hj⟩ := vou (u0 := u0) (u1 := u1) (u4 := u4) (u5 := u5) (u6 := u6) (u7 := u7) (u8 := u8) (u9 := u9) (u10 := u10) (u11 := u11) (u12 := u12) (u13 := u13) l (s ++ [y.1]) (i + 1) (by simp; omega)
    refine ⟨j, fun k => ?_⟩
    have hm : s.length + [y.1].length ≤ VE.maxLen := by show _ ≤ 4294967296; simp; omega
    simp only [vf1, if_pos hm, hj, List.map_cons, List.append_assoc, List.singleton_append]
def ownF (t : tTxn.D) (l : List tVersion.D) (k : ByteArray) : Option tRange.D := bif (vbc t l k).2 then some (k, (vbc t l k).1) else none
def ownI (t : tTxn.D) (l : List tVersion.D) (r : tRange.D) (k : ByteArray) : Option tRange.D := bif (vbc t l k).2 && vbf r k then some (k, (vbc t l k).1) else none
theorem vmr {t : tTxn.D} (ht : tTxn.wt t ≤ 1048576) {u0 : List tVersion.D} (hu : u0.length ≤ 1048576) {ks : List ByteArray} (hk : ks.length ≤ 1048576) : ∀ (l : List ByteArray) (out : List tRange.D) (i q : Nat), ks.drop i = l → l.length < q → out.length + l.length ≤ 3000000 → ∃ j : Int, ∀ K,
    vac vga q (u0, (i : Int), t.1, t.2.1, t.2.2.1, t.2.2.2.1, t.2.2.2.2.1, t.2.2.2.2.2.1, t.2.2.2.2.2.2.1, t.2.2.2.2.2.2.2, out, ks) K = K (u0, j, t.1, t.2.1, t.2.2.1, t.2.2.2.1, t.2.2.2.2.1, t.2.2.2.2.2.1, t.2.2.2.2.2.2.1, t.2.2.2.2.2.2.2, out ++ l.filterMap (ownF t u0), ks)
  | l, out, i, 0, _, h, _ => by omega
  | [], out, i, q + 1, hd, _, _ => by
    have hge := vbi hd
    refine ⟨(i : Int), fun K => ?_⟩
    simp only [vac, vga, hge, decide_false, cond_false, Sum.elim_inr, List.filterMap_nil, List.append_nil]
  | y :: l, out, i, q + 1, hd, hq, ha => by
    simp only [List.length_cons] at ha
    have hlt := vcf hd
    have hy : ks.getD i (Ty.zero .str) = y := (va8 hd).2 _
    have w : IntKind.wrap .i64 ((i : Int) + 1) = ((i + 1 : Nat) : Int) := vbe (by omega)
    have c1 : (i : Int) < (ks.length : Int) := by omega
    have c2 : (0 : Int) ≤ (i : Int) := by omega
    cases he : (vbc t u0 y).2
    · obtain ⟨j, hj⟩ := vmr ht hu hk l out (i + 1) q (val hd) (by simpa using hq) (by omega)
      refine ⟨j, fun K => ?_⟩
      simp only [vac, vga, vdx, c1, c2, decide_true, cond_true, and_self, if_true, Int.toNat_natCast, hy, vzc ht hu, he, cond_false, Sum.elim_inl, w, List.filterMap_cons, ownF]
      exact hj K
    · have hm : out.length + [(y, (vbc t u0 y).1)].length ≤ VE.maxLen := by show _ ≤ 4294967296; simp; omega
      obtain ⟨j, hj⟩ := vmr ht hu hk l (out ++ [(y, (vbc t u0 y).1)]) (i + 1) q (val hd) (by simpa using hq) (by simp; omega)
      refine ⟨j, fun K => ?_⟩
      simp only [vac, vga, vdx, c1, c2, decide_true, cond_true, and_self, if_true, Int.toNat_natCast, hy, vzc ht hu, he, if_pos hm, Sum.elim_inl, w, List.filterMap_cons, ownF]
      rw [hj K, List.append_assoc, List.singleton_append]
theorem vjd {t : tTxn.D} (ht : tTxn.wt t ≤ 1048576) {r : tRange.D} {u0 : List tVersion.D} (hu : u0.length ≤ 1048576) {ks : List ByteArray} (hk : ks.length ≤ 2097152) : ∀ (l : List ByteArray) (out : List tRange.D) (i q : Nat), ks.drop i = l → l.length < q → out.length + l.length ≤ 3000000 → ∃ j : Int, ∀ K,
    vac vdr q (u0, (ks.length : Int), (i : Int), t.1, t.2.1, t.2.2.1, t.2.2.2.1, t.2.2.2.2.1, t.2.2.2.2.2.1, t.2.2.2.2.2.2.1, t.2.2.2.2.2.2.2, r.1, r.2, out, ks) K = K (u0, (ks.length : Int), j, t.1, t.2.1, t.2.2.1, t.2.2.2.1, t.2.2.2.2.1, t.2.2.2.2.2.1, t.2.2.2.2.2.2.1, t.2.2.2.2.2.2.2, r.1, r.2, out ++ l.filterMap (ownI t u0 r), ks)
  | l, out, i, 0, _, h, _ => by omega
  | [], out, i, q + 1, hd, _, _ => by
    have hge := vbi hd
    refine ⟨(i : Int), fun K => ?_⟩
    simp only [vac, vdr, hge, decide_false, cond_false, Sum.elim_inr, List.filterMap_nil, List.append_nil]
  | y :: l, out, i, q + 1, hd, hq, ha => by
    simp only [List.length_cons] at ha
    have hlt := vcf hd
    have hy : ks.getD i (Ty.zero .str) = y := (va8 hd).2 _
    have w : IntKind.wrap .i64 ((i : Int) + 1) = ((i + 1 : Nat) : Int) := vbe (by omega)
    have c1 : (i : Int) < (ks.length : Int) := by omega
    have c2 : (0 : Int) ≤ (i : Int) := by omega
    have hin : ∀ k, vks r y k = k (vbf r y) := fun k => v0i r y k
    cases he : (vbc t u0 y).2
    · obtain ⟨j, hj⟩ := vjd ht (r := r) hu hk l out (i + 1) q (val hd) (by simpa using hq) (by omega)
      refine ⟨j, fun K => ?_⟩
      simp only [vac, vdr, vdx, c1, c2, decide_true, cond_true, and_self, if_true, Int.toNat_natCast, hy, vmm ht hu, he, cond_false, Sum.elim_inl, w, List.filterMap_cons, ownI, Bool.false_and]
      exact hj K
    · cases hr : vbf r y
      · obtain ⟨j, hj⟩ := vjd ht (r := r) hu hk l out (i + 1) q (val hd) (by simpa using hq) (by omega)
        refine ⟨j, fun K => ?_⟩
        simp only [vac, vdr, vdx, c1, c2, decide_true, cond_true, and_self, if_true, Int.toNat_natCast, hy, vmm ht hu, he, hin, hr, cond_false, Sum.elim_inl, w, List.filterMap_cons, ownI, Bool.true_and]
        exact hj K
      · have hm : out.length + [(y, (vbc t u0 y).1)].length ≤ VE.maxLen := by show _ ≤ 4294967296; simp; omega
        obtain ⟨j, hj⟩ := vjd ht (r := r) hu hk l (out ++ [(y, (vbc t u0 y).1)]) (i + 1) q (val hd) (by simpa using hq) (by simp; omega)
        refine ⟨j, fun K => ?_⟩
        simp only [vac, vdr, vdx, c1, c2, decide_true, cond_true, and_self, if_true, Int.toNat_natCast, hy, vmm ht hu, he, hin, hr, if_pos hm, Sum.elim_inl, w, List.filterMap_cons, ownI, Bool.true_and]
        rw [hj K, List.append_assoc, List.singleton_append]
def vi1 (t : tTxn.D) (l : List tVersion.D) : List ByteArray := dd (vdy (vgj l ++ t.2.2.2.2.2.1.map fun w => w.1))
def vbr (t : tTxn.D) (l : List tVersion.D) (r : tRange.D) : List tRange.D := (vi6 r (l ++ t.2.2.2.2.2.1.map asV) []).filterMap (ownF t l)
theorem vrh (t : tTxn.D) (l : List tVersion.D) (r : tRange.D) : (vi1 t l).filter (fun k => vbf r k) = vi6 r (l ++ t.2.2.2.2.2.1.map asV) [] := by
  obtain ⟨s1, s2⟩ := vgn (vgj l ++ t.2.2.2.2.2.1.map fun w => w.1)
  obtain ⟨d1, d2⟩ := vrp s1
  obtain ⟨e1, e2⟩ := vgn (l.map fun v => v.1)
  obtain ⟨f1, f2⟩ := vrp e1
  obtain ⟨k1, k2⟩ := vfd r (l ++ t.2.2.2.2.2.1.map asV) [] List.Pairwise.nil
  refine vug (List.Pairwise.filter _ d1) k1 (fun x => ?_)
  have hk : x ∈ vgj l ↔ x ∈ l.map fun v => v.1 := by unfold vgj; rw [f2 x, e2 x]
  have hm : ((t.2.2.2.2.2.1.map asV).map fun v => v.1) = t.2.2.2.2.2.1.map fun w => w.1 := by rw [List.map_map]; rfl
  rw [List.mem_filter, k2 x]
  unfold vi1
  rw [d2 x, s2 x, List.mem_append, hk, List.map_append, hm, List.mem_append]
  constructor
  · rintro ⟨a, b⟩; exact .inr ⟨b, a⟩
  · rintro (a | ⟨a, b⟩)
    · cases a
    · exact ⟨b, a⟩
theorem vvg (t : tTxn.D) (l : List tVersion.D) (r : tRange.D) : (vi1 t l).filterMap (ownI t l r) = vbr t l r := by
  unfold vbr
  rw [← vrh, ← filterMap_filter']
  congr 1
  funext k
  unfold ownI ownF
  cases vbf r k <;> cases (vbc t l k).2 <;> rfl
theorem vmw (t : tTxn.D) (l : List tVersion.D) (r : tRange.D) : (vbr t l r).length ≤ l.length + t.2.2.2.2.2.1.length := by
  unfold vbr
  have := vhh (l := l ++ t.2.2.2.2.2.1.map asV) r
  rw [List.length_append, List.length_map] at this
  exact Nat.le_trans (List.length_filterMap_le _ _) this
theorem v5q {t : tTxn.D} (ht : tTxn.wt t ≤ 1048576) {l : List tVersion.D} (hl : l.length + t.2.2.2.2.2.1.length ≤ 1048576) (r : tRange.D) (k) : vmz t l r k = k (vbr t l r) := by
  rw [v76 (by omega)]
  unfold vzw
  obtain ⟨j0, h0⟩ := vn1 (u0 := l) (u2 := t.1) (u3 := t.2.1) (u4 := t.2.2.1) (u5 := t.2.2.2.1) (u6 := t.2.2.2.2.1) (u7 := t.2.2.2.2.2.1) (u8 := t.2.2.2.2.2.2.1) (u9 := t.2.2.2.2.2.2.2) (u10 := r.1) (u11 := r.2) t.2.2.2.2.2.1 l 0 (by omega)
  have hka := vhh (l := l ++ t.2.2.2.2.2.1.map asV) r
  have hal : (l ++ t.2.2.2.2.2.1.map asV).length ≤ 1048576 := by rw [List.length_append, List.length_map]; omega
  obtain ⟨j, hj⟩ := vmr ht (u0 := l) (by omega) (ks := vi6 r (l ++ t.2.2.2.2.2.1.map asV) []) (by omega) _ [] 0 Fuel rfl (Nat.lt_of_lt_of_le (by rw [List.drop_zero]; omega) vbp) (by simp; omega)
  have hz : ((0 : Nat) : Int) = 0 := rfl
  rw [hz] at hj
  rw [if_pos (by show _ ≤ 4294967296; simp; omega)]
  simp only [List.nil_append, h0, v5w hal, hj, List.drop_zero]
  rfl
theorem v07 {t : tTxn.D} (ht : tTxn.wt t ≤ 1048576) {l : List tVersion.D} (hl : l.length + t.2.2.2.2.2.1.length ≤ 1048576) (r : tRange.D) (k) : vja t l r k = k (vbr t l r) := by
  rw [v62 (by omega)]
  unfold vzn
  have hki := vkq l
  obtain ⟨j0, h0⟩ := vou (u0 := l) (u1 := t.2.2.2.2.2.1) (u4 := t.1) (u5 := t.2.1) (u6 := t.2.2.1) (u7 := t.2.2.2.1) (u8 := t.2.2.2.2.1) (u9 := t.2.2.2.2.2.1) (u10 := t.2.2.2.2.2.2.1) (u11 := t.2.2.2.2.2.2.2) (u12 := r.1) (u13 := r.2) t.2.2.2.2.2.1 (vgj l) 0 (by omega)
  have hs : ∀ xs : List ByteArray, xs.length ≤ 1000000000 → ∀ k, vjg xs k = k (vdy xs) := fun xs h k => by
    rw [vwt]
    unfold vop
    rw [if_pos h]
  have hkl : (vgj l ++ t.2.2.2.2.2.1.map fun w => w.1).length ≤ 1048576 := by rw [List.length_append, List.length_map]; omega
  have hsl : (vdy (vgj l ++ t.2.2.2.2.2.1.map fun w => w.1)).length ≤ 1048576 := by rw [vdi]; exact hkl
  have hol : (vi1 t l).length ≤ 1048576 := by
    obtain ⟨s1, s2⟩ := vgn (vgj l ++ t.2.2.2.2.2.1.map fun w => w.1)
    obtain ⟨d1, d2⟩ := vrp s1
    have := vh1 (m := vgj l ++ t.2.2.2.2.2.1.map fun w => w.1) d1 (fun x hx => (s2 x).1 ((d2 x).1 hx))
    unfold vi1
    omega
  obtain ⟨j, hj⟩ := vjd ht (r := r) (u0 := l) (by omega) (ks := vi1 t l) (by omega) _ [] 0 Fuel rfl (Nat.lt_of_lt_of_le (by rw [List.drop_zero]; omega) vbp) (by simp; omega)
  have hz : ((0 : Nat) : Int) = 0 := rfl
  rw [hz] at hj
  simp only [v0n (show l.length ≤ 1048576 by omega), h0, hs _ (show (vgj l ++ t.2.2.2.2.2.1.map fun w => w.1).length ≤ 1000000000 by omega)]
  have e : dd (vdy (vgj l ++ t.2.2.2.2.2.1.map fun w => w.1)) = vi1 t l := rfl
  rcases vfb (T := vdy (vgj l ++ t.2.2.2.2.2.1.map fun w => w.1)) (by omega) with h | h
  · rw [h, e]
    simp only [Sum.elim_inl, hj, List.nil_append, List.drop_zero]
    exact congrArg k (vvg t l r)
  · rw [h, e]
    simp only [Sum.elim_inr, hj, List.nil_append, List.drop_zero]
    exact congrArg k (vvg t l r)
end
end Go.VE
/- Plain laws: a write that is put into others. -/
namespace Go.VE
noncomputable section
set_option linter.unusedVariables false
set_option linter.unusedSimpArgs false
set_option maxRecDepth 100000
theorem vkj {u0 u2 u3 u4} : ∀ (l s : List tWrite.D) (i : Nat), s.length + l.length ≤ 3000000 → ∃ j : Int, ∀ k, vev u0 u2 u3 u4 l s i k = k (j, s ++ l.filter fun y => vab y.1 u2)
  | [], s, i, _ => ⟨_, fun k => by simp [vev]; rfl⟩
  | y :: l, s, i, h => by
    simp only [List.length_cons] at h
    have hm : s.length + [y].length ≤ VE.maxLen := by show _ ≤ 4294967296; simp; omega
    simp only [vev, List.filter_cons]
    cases vab y.1 u2
    · obtain ⟨j, hj⟩ := vkj (u0 := u0) (u2 := u2) (u3 := u3) (u4 := u4) l s (i + 1) (by omega)
      exact ⟨j, fun k => by simp only [cond_false]; exact hj k⟩
    · obtain ⟨j, hj⟩ := vkj (u0 := u0) (u2 := u2) (u3 := u3) (u4 := u4) l (s ++ [y]) (i + 1) (by simp; omega)
      exact ⟨j, fun k => by simp only [cond_true, if_pos hm, if_true]; rw [hj k, List.append_assoc, List.singleton_append]⟩
theorem vkc {u0 u2 u3 u4} : ∀ (l s : List tWrite.D) (i : Nat), s.length + l.length ≤ 3000000 → ∃ j : Int, ∀ k, ve5 u0 u2 u3 u4 l s i k = k (j, s ++ l.filter fun y => !(vab y.1 u2 || vao y.1 u2))
  | [], s, i, _ => ⟨_, fun k => by simp [ve5]; rfl⟩
  | y :: l, s, i, h => by
    simp only [List.length_cons] at h
    have hm : s.length + [y].length ≤ VE.maxLen := by show _ ≤ 4294967296; simp; omega
    simp only [ve5, List.filter_cons]
    cases (!(vab y.1 u2 || vao y.1 u2))
    · obtain ⟨j, hj⟩ := vkc (u0 := u0) (u2 := u2) (u3 := u3) (u4 := u4) l s (i + 1) (by omega)
      exact ⟨j, fun k => by simp only [cond_false]; exact hj k⟩
    · obtain ⟨j, hj⟩ := vkc (u0 := u0) (u2 := u2) (u3 := u3) (u4 := u4) l (s ++ [y]) (i + 1) (by simp; omega)
      exact ⟨j, fun k => by simp only [cond_true, if_pos hm, if_true]; rw [hj k, List.append_assoc, List.singleton_append]⟩
def putB (l : List tWrite.D) (w : tWrite.D) : List tWrite.D := (l.filter fun y => vab y.1 w.1) ++ w :: l.filter fun y => !(vab y.1 w.1 || vao y.1 w.1)
theorem v5o {l : List tWrite.D} (hl : l.length ≤ 1048576) (w : tWrite.D) (k) : vmo l w k = k (putB l w) := by
  rw [v67 (by omega)]
  unfold vzq
  obtain ⟨j, hj⟩ := vkj (u0 := l) (u2 := w.1) (u3 := w.2.1) (u4 := w.2.2) l [] 0 (by simp; omega)
  have hf := List.length_filter_le (fun y : tWrite.D => vab y.1 w.1) l
  obtain ⟨j2, hj2⟩ := vkc (u0 := l) (u2 := w.1) (u3 := w.2.1) (u4 := w.2.2) l ((l.filter fun y => vab y.1 w.1) ++ [w]) 0 (by simp; omega)
  rw [hj]
  simp only [List.nil_append]
  rw [if_pos (by show _ ≤ 4294967296; simp only [List.length_singleton]; omega), hj2]
  unfold putB
  rw [List.append_assoc, List.singleton_append]
/-- Keys ascend; what is gone has no value. -/
def okP (l : List tWrite.D) : Prop := (l.Pairwise fun a b => vab a.1 b.1 = true) ∧ ∀ y ∈ l, y.2.2 = true → y.2.1 = ⟨#[]⟩
theorem v6e {l : List tWrite.D} (h : okP l) {w : tWrite.D} (hw : w.2.2 = true → w.2.1 = ⟨#[]⟩) : okP (putB l w) := by
  have gt : ∀ y : ByteArray, (!(vab y w.1 || vao y w.1)) = true → vab w.1 y = true := by
    intro y hy
    simp only [Bool.not_eq_true', Bool.or_eq_false_iff] at hy
    cases hh : vab w.1 y
    · have := veo hy.1 hh
      rw [this, vbu] at hy
      cases hy.2
    · rfl
  constructor
  · unfold putB
    rw [List.pairwise_append]
    refine ⟨List.Pairwise.filter _ h.1, List.pairwise_cons.2 ⟨fun x hx => gt x.1 (List.mem_filter.1 hx).2, List.Pairwise.filter _ h.1⟩, fun a ha b hb => ?_⟩
    have ha' := (List.mem_filter.1 ha).2
    rcases List.mem_cons.1 hb with e | e
    · rw [e]; exact ha'
    · exact vc8 ha' (gt b.1 (List.mem_filter.1 e).2)
  · intro y hy
    unfold putB at hy
    rcases List.mem_append.1 hy with hy | hy
    · exact h.2 y (List.mem_filter.1 hy).1
    · rcases List.mem_cons.1 hy with e | e
      · rw [e]; exact hw
      · exact h.2 y (List.mem_filter.1 e).1
end
end Go.VE
/- Plain laws: a key that is written. -/
namespace Go.VE
noncomputable section
set_option linter.unusedVariables false
set_option linter.unusedSimpArgs false
set_option maxRecDepth 100000
/-! ### the program's PutWrite -/
/-- Keys ascend. -/
def ascW (l : List tWrite.D) : Prop := l.Pairwise fun a b => vab a.1 b.1 = true
theorem v1s {l : List tWrite.D} {w y : tWrite.D} (h : y ∈ putB l w) : y ∈ l ∨ y = w := by
  unfold putB at h
  rcases List.mem_append.1 h with h | h
  · exact .inl (List.mem_filter.1 h).1
  · rcases List.mem_cons.1 h with h | h
    · exact .inr h
    · exact .inl (List.mem_filter.1 h).1
theorem vsz (l : List tWrite.D) (w : tWrite.D) : (putB l w).length ≤ l.length + 1 := by
  unfold putB
  have h1 : l.length = (l.filter fun y => vab y.1 w.1).length + (l.filter fun y => !vab y.1 w.1).length := by
    induction l with
    | nil => rfl
    | cons y l ih => cases h : vab y.1 w.1 <;> simp [List.filter_cons, h] <;> omega
  have h2 : (l.filter fun y => !(vab y.1 w.1 || vao y.1 w.1)).length ≤ (l.filter fun y => !vab y.1 w.1).length := by
    have : (l.filter fun y => !(vab y.1 w.1 || vao y.1 w.1)) = (l.filter fun y => !vab y.1 w.1).filter fun y => !vao y.1 w.1 := by
      rw [List.filter_filter]
      congr 1
      funext y
      cases vab y.1 w.1 <;> cases vao y.1 w.1 <;> rfl
    rw [this]
    exact List.length_filter_le _ _
  rw [List.length_append, List.length_cons]
  omega
theorem vp4 {y : tWrite.D} (h : vch y = true) : y.1.size ≤ 3 ∧ y.2.1.size ≤ 12 := by
  unfold vch at h
  simp only [Bool.and_eq_true, decide_eq_true_eq] at h
  exact ⟨by have := vxq h.1.1; omega, by omega⟩
end
end Go.VE
/- Plain laws: versions that are put into others. -/
namespace Go.VE
noncomputable section
set_option linter.unusedVariables false
set_option linter.unusedSimpArgs false
set_option maxRecDepth 100000
/-- Not behind v in the order of keys and numbers. -/
def leV (v y : tVersion.D) : Bool := vab y.1 v.1 || (vao y.1 v.1 && decide (y.2.2.2 ≤ v.2.2.2))
def insV (l : List tVersion.D) (v : tVersion.D) : List tVersion.D := l.takeWhile (leV v) ++ v :: l.dropWhile (leV v)
def vhe (cs : Int) (x : tWrite.D) : tVersion.D := (x.1, (x.2.1, (x.2.2, cs)))
def vdb (l : List tVersion.D) (w : List tWrite.D) (cs : Int) : List tVersion.D := w.foldl (fun out x => insV out (vhe cs x)) l
theorem vlw (l : List tVersion.D) (v : tVersion.D) : (insV l v).length = l.length + 1 := by
  unfold insV
  have := congrArg List.length (List.takeWhile_append_dropWhile (p := leV v) (l := l))
  rw [List.length_append] at this
  rw [List.length_append, List.length_cons]
  omega
theorem vhl : ∀ (w : List tWrite.D) (l : List tVersion.D) (cs : Int), (vdb l w cs).length = l.length + w.length
  | [], l, cs => rfl
  | x :: w, l, cs => by
    show (vdb (insV l (vhe cs x)) w cs).length = _
    rw [vhl w, vlw, List.length_cons]
    omega
theorem vyt {A : List tWrite.D} {B C : Int} {L : List tVersion.D} {v1 v2 : ByteArray} {v3 : Bool} {v4 : Int} (hL : L.length ≤ 3000000) : ∀ (l : List tVersion.D) (i q : Nat) (s : List tVersion.D), L.drop i = l → l.length < q → s.length + l.length ≤ 3000000 → ∀ K,
    vac vi0 q (A, B, C, (i : Int), L, v1, v2, v3, v4, s) K = K (A, B, C, ((i + (l.takeWhile (leV (v1, (v2, (v3, v4))))).length : Nat) : Int), L, v1, v2, v3, v4, s ++ l.takeWhile (leV (v1, (v2, (v3, v4)))))
  | l, i, 0, s, _, h, _ => by omega
  | [], i, q + 1, s, hd, _, _ => fun K => by
    have hge := vbi hd
    simp only [vac, vi0, hge, decide_false, cond_false, Sum.elim_inr, List.takeWhile_nil, List.length_nil, Nat.add_zero, List.append_nil]
  | y :: l, i, q + 1, s, hd, hq, hs => fun K => by
    have hlt := vcf hd
    have hy : L.getD i (Ty.zero tVersion) = y := (va8 hd).2 _
    have hw1 : IntKind.wrap .i64 ((i : Int) + 1) = ((i + 1 : Nat) : Int) := vbe (by omega)
    simp only [List.length_cons] at hs
    have hm : s.length + [y].length ≤ VE.maxLen := by show _ ≤ 4294967296; simp; omega
    have ih := vyt (A := A) (B := B) (C := C) (v1 := v1) (v2 := v2) (v3 := v3) (v4 := v4) hL l (i + 1) q (s ++ [y]) (val hd) (by simpa using hq) (by rw [List.length_append, List.length_singleton]; omega) K
    have e1 : leV (v1, (v2, (v3, v4))) y = (vab y.1 v1 || (vao y.1 v1 && decide (y.2.2.2 ≤ v4))) := rfl
    simp only [vac, vi0, vb9, show (i : Int) < (L.length : Int) by omega, show (0 : Int) ≤ (i : Int) by omega, and_self, if_true, decide_true, cond_true, Int.toNat_natCast, hy, hw1, List.takeWhile_cons, e1, if_pos hm]
    have key : K (A, B, C, ((i + 1 + (l.takeWhile (leV (v1, (v2, (v3, v4))))).length : Nat) : Int), L, v1, v2, v3, v4, s ++ [y] ++ l.takeWhile (leV (v1, (v2, (v3, v4))))) =
        K (A, B, C, ((i + (y :: l.takeWhile (leV (v1, (v2, (v3, v4))))).length : Nat) : Int), L, v1, v2, v3, v4, s ++ y :: l.takeWhile (leV (v1, (v2, (v3, v4))))) := by
      rw [List.append_assoc, List.singleton_append, List.length_cons, show i + 1 + (l.takeWhile (leV (v1, (v2, (v3, v4))))).length = i + ((l.takeWhile (leV (v1, (v2, (v3, v4))))).length + 1) by omega]
    cases vab y.1 v1
    · cases vao y.1 v1
      · simp only [cond_false, Sum.elim_inr, Bool.false_or, Bool.false_and, Bool.false_eq_true, if_false, List.length_nil, Nat.add_zero, List.append_nil]
      · cases decide (y.2.2.2 ≤ v4)
        · simp only [cond_false, cond_true, Sum.elim_inr, Bool.false_or, Bool.true_and, Bool.false_eq_true, if_false, List.length_nil, Nat.add_zero, List.append_nil]
        · simp only [cond_false, cond_true, Sum.elim_inl, Bool.false_or, Bool.true_and, if_true]
          rw [ih, key]
    · simp only [cond_true, Sum.elim_inl, Bool.true_or, if_true]
      rw [ih, key]
theorem v6s (l : List tVersion.D) (v : tVersion.D) : l.drop (l.takeWhile (leV v)).length = l.dropWhile (leV v) := by
  have := List.takeWhile_append_dropWhile (p := leV v) (l := l)
  generalize l.takeWhile (leV v) = a at *
  generalize l.dropWhile (leV v) = b at *
  rw [← this, List.drop_left]
theorem v86 (l : List tVersion.D) (v : tVersion.D) : (l.takeWhile (leV v)).length + (l.dropWhile (leV v)).length = l.length := by
  have := congrArg List.length (List.takeWhile_append_dropWhile (p := leV v) (l := l))
  rwa [List.length_append] at this
theorem vvm {A : List tWrite.D} {cs : Int} (hA : A.length ≤ 1048576) : ∀ (l : List tWrite.D) (i q : Nat) (s : List tVersion.D), A.drop i = l → l.length < q → s.length + l.length ≤ 2097152 → ∃ j : Int, ∀ K,
    vac vis q (A, cs, (i : Int), s) K = K (A, cs, j, vdb s l cs)
  | l, i, 0, s, _, h, _ => by omega
  | [], i, q + 1, s, hd, _, _ => by
    have hge := vbi hd
    exact ⟨(i : Int), fun K => by simp only [vac, vis, hge, decide_false, cond_false, Sum.elim_inr]; rfl⟩
  | y :: l, i, q + 1, s, hd, hq, hs => by
    have hlt := vcf hd
    have hy : rd (Ty.zero tWrite) A (i : Int) = y := (va8 hd).1 _
    have hw1 : IntKind.wrap .i64 ((i : Int) + 1) = ((i + 1 : Nat) : Int) := vbe (by omega)
    simp only [List.length_cons] at hs
    have hil := vlw s (vhe cs y)
    obtain ⟨j, hj⟩ := vvm (cs := cs) hA l (i + 1) q (insV s (vhe cs y)) (val hd) (by simpa using hq) (by omega)
    refine ⟨j, fun K => ?_⟩
    have hin := vyt (A := A) (B := cs) (C := (i : Int)) (v1 := y.1) (v2 := y.2.1) (v3 := y.2.2) (v4 := cs) (show s.length ≤ 3000000 by omega) s 0 Fuel [] rfl (Nat.lt_of_lt_of_le (by omega) vbp) (by simp; omega)
    have hz : ((0 : Nat) : Int) = 0 := rfl
    rw [hz] at hin
    have htw := v86 s (vhe cs y)
    simp only [vac, vis, show (i : Int) < (A.length : Int) by omega, show (0 : Int) ≤ (i : Int) by omega, and_self, if_true, decide_true, cond_true, hy, hw1, hin, List.nil_append, Nat.zero_add]
    change (if (s.takeWhile (leV (vhe cs y))).length + [vhe cs y].length ≤ VE.maxLen then if 0 ≤ (((s.takeWhile (leV (vhe cs y))).length : Nat) : Int) ∧ (((s.takeWhile (leV (vhe cs y))).length : Nat) : Int) ≤ (s.length : Int) then
      if (s.takeWhile (leV (vhe cs y)) ++ [vhe cs y]).length + (s.drop (((s.takeWhile (leV (vhe cs y))).length : Nat) : Int).toNat).length ≤ VE.maxLen then _ else none else none else none) = _
    rw [if_pos (by show _ ≤ 4294967296; simp only [List.length_singleton]; omega), if_pos ⟨by omega, by omega⟩, if_pos (by show _ ≤ 4294967296; simp only [List.length_append, List.length_singleton, List.length_drop]; omega), Int.toNat_natCast, v6s, List.append_assoc, List.singleton_append]
    exact hj K
theorem v5u {l : List tVersion.D} {w : List tWrite.D} (hl : l.length ≤ 1048576) (hw : w.length ≤ 1048576) (cs : Int) (k) : voa l w cs k = k (vdb l w cs) := by
  rw [vyk]
  unfold vv8
  rw [if_pos (by show _ ≤ 4294967296; simp; omega)]
  obtain ⟨j, hj⟩ := vvm (cs := cs) hw w 0 Fuel l rfl (Nat.lt_of_lt_of_le (by omega) vbp) (by omega)
  have hz : ((0 : Nat) : Int) = 0 := rfl
  rw [hz] at hj
  rw [List.nil_append, hj]
end
end Go.VE
/- Plain laws: versions in order; what is seen among them. -/
namespace Go.VE
noncomputable section
set_option linter.unusedVariables false
set_option linter.unusedSimpArgs false
set_option maxRecDepth 100000
theorem vnq {α : Type} {R : α → α → Prop} {p : α → Bool} : ∀ {l : List α}, l.Pairwise R → (∀ a b, R a b → p b = true → p a = true) → l.takeWhile p = l.filter p ∧ l.dropWhile p = l.filter (fun y => !p y)
  | [], _, _ => ⟨rfl, rfl⟩
  | y :: l, h, hp => by
    obtain ⟨h1, h2⟩ := List.pairwise_cons.1 h
    obtain ⟨a, b⟩ := vnq h2 hp
    cases hy : p y with
    | true => simp [List.takeWhile_cons, List.dropWhile_cons, List.filter_cons, hy, a, b]
    | false =>
      have hall : ∀ z ∈ l, p z = false := fun z hz => by
        cases hz2 : p z with
        | false => rfl
        | true => rw [hp y z (h1 z hz) hz2] at hy; cases hy
      have e1 : l.filter p = [] := List.filter_eq_nil_iff.2 fun z hz => by simp [hall z hz]
      have e2 : l.filter (fun y => !p y) = l := List.filter_eq_self.2 fun z hz => by simp [hall z hz]
      simp [List.takeWhile_cons, List.dropWhile_cons, List.filter_cons, hy, e1, e2]
/-- The order of versions: by keys, then by numbers. -/
theorem vvd (a b : tVersion.D) : vdv a b = true ↔ vab a.1 b.1 = true ∨ (a.1 = b.1 ∧ (a.2.2.2 : Int) < b.2.2.2) := by
  unfold vdv
  rw [Bool.or_eq_true, Bool.and_eq_true, voc, decide_eq_true_eq, decide_eq_true_eq]
theorem vu5 (v y : tVersion.D) : leV v y = true ↔ vab y.1 v.1 = true ∨ (y.1 = v.1 ∧ (y.2.2.2 : Int) ≤ v.2.2.2) := by
  unfold leV
  rw [Bool.or_eq_true, Bool.and_eq_true, voc, decide_eq_true_eq, decide_eq_true_eq]
theorem v88 {a b c : tVersion.D} (h1 : vdv a b = true) (h2 : vdv b c = true) : vdv a c = true := by
  rw [vvd] at *
  rcases h1 with h1 | ⟨e1, h1⟩ <;> rcases h2 with h2 | ⟨e2, h2⟩
  · exact .inl (vc8 h1 h2)
  · exact .inl (e2 ▸ h1)
  · exact .inl (e1 ▸ h2)
  · exact .inr ⟨e1.trans e2, Int.lt_trans h1 h2⟩
theorem v4g {v y : tVersion.D} (h : leV v y = false) : vdv v y = true := by
  rw [vvd]
  cases h1 : vab y.1 v.1 with
  | true => rw [(vu5 v y).2 (.inl h1)] at h; cases h
  | false =>
    cases h2 : vab v.1 y.1 with
    | true => exact .inl rfl
    | false =>
      have e := veo h1 h2
      refine .inr ⟨e.symm, ?_⟩
      rcases Int.lt_or_le v.2.2.2 y.2.2.2 with h3 | h3
      · exact h3
      · rw [(vu5 v y).2 (.inr ⟨e, h3⟩)] at h; cases h
abbrev vkf (l : List tVersion.D) : Prop := l.Pairwise fun a b => vdv a b = true
theorem v3f {v a b : tVersion.D} (h : vdv a b = true) (hb : leV v b = true) : leV v a = true := by
  rw [vvd] at h
  rw [vu5] at *
  rcases h with h | ⟨e, h⟩ <;> rcases hb with hb | ⟨eb, hb⟩
  · exact .inl (vc8 h hb)
  · exact .inl (eb ▸ h)
  · exact .inl (e ▸ hb)
  · exact .inr ⟨e.trans eb, Int.le_of_lt (Int.lt_of_lt_of_le h hb)⟩
theorem vtf {l : List tVersion.D} (h : vkf l) {v : tVersion.D} (hn : ∀ y ∈ l, ¬ (y.1 = v.1 ∧ (y.2.2.2 : Int) = v.2.2.2)) : vkf (insV l v) := by
  obtain ⟨e1, e2⟩ := vnq (p := leV v) h (fun a b hab hb => v3f hab hb)
  have hlt : ∀ y ∈ l, leV v y = true → vdv y v = true := fun y hy hle => by
    rw [vu5] at hle
    rw [vvd]
    rcases hle with hle | ⟨e, hle⟩
    · exact .inl hle
    · refine .inr ⟨e, ?_⟩
      rcases Int.lt_or_eq_of_le hle with h1 | h1
      · exact h1
      · exact absurd ⟨e, h1⟩ (hn y hy)
  unfold insV
  rw [e1, e2]
  refine List.pairwise_append.2 ⟨List.Pairwise.filter _ h, List.pairwise_cons.2 ⟨fun x hx => ?_, List.Pairwise.filter _ h⟩, fun a ha b hb => ?_⟩
  · have := (List.mem_filter.1 hx).2
    exact v4g (by simpa using this)
  · have ha' := hlt a (List.mem_filter.1 ha).1 (List.mem_filter.1 ha).2
    rcases List.mem_cons.1 hb with hb | hb
    · rw [hb]; exact ha'
    · have := (List.mem_filter.1 hb).2
      exact v88 ha' (v4g (by simpa using this))
theorem vwm {l : List tVersion.D} {v y : tVersion.D} : y ∈ insV l v ↔ y ∈ l ∨ y = v := by
  have e := List.takeWhile_append_dropWhile (p := leV v) (l := l)
  unfold insV
  constructor
  · intro h
    rcases List.mem_append.1 h with h | h
    · exact .inl (by rw [← e]; exact List.mem_append_left _ h)
    · rcases List.mem_cons.1 h with h | h
      · exact .inr h
      · exact .inl (by rw [← e]; exact List.mem_append_right _ h)
  · intro h
    rcases h with h | h
    · rw [← e] at h
      rcases List.mem_append.1 h with h | h
      · exact List.mem_append_left _ h
      · exact List.mem_append_right _ (List.mem_cons_of_mem _ h)
    · rw [h]; exact List.mem_append_right _ (List.mem_cons_self ..)
theorem vku {cs : Int} {y : tVersion.D} : ∀ {w : List tWrite.D} {l : List tVersion.D}, y ∈ vdb l w cs ↔ y ∈ l ∨ ∃ x ∈ w, y = vhe cs x
  | [], l => ⟨fun h => .inl h, fun h => h.elim id fun ⟨x, hx, _⟩ => by cases hx⟩
  | x :: w, l => by
    show y ∈ vdb (insV l (vhe cs x)) w cs ↔ _
    rw [vku, vwm]
    constructor
    · rintro ((h | h) | ⟨z, hz, h⟩)
      · exact .inl h
      · exact .inr ⟨x, List.mem_cons_self .., h⟩
      · exact .inr ⟨z, List.mem_cons_of_mem _ hz, h⟩
    · rintro (h | ⟨z, hz, h⟩)
      · exact .inl (.inl h)
      · rcases List.mem_cons.1 hz with e | hz
        · exact .inl (.inr (e ▸ h))
        · exact .inr ⟨z, hz, h⟩
/-- Writes of unlike keys, put behind lesser numbers, leave the versions in order. -/
theorem vg8 {cs : Int} : ∀ {w : List tWrite.D} {l : List tVersion.D}, vkf l → ascW w → (∀ y ∈ l, (y.2.2.2 : Int) < cs ∨ ∀ x ∈ w, y.1 ≠ x.1) → vkf (vdb l w cs)
  | [], l, h, _, _ => h
  | x :: w, l, h, ha, hc => by
    obtain ⟨h1, h2⟩ := List.pairwise_cons.1 ha
    show vkf (vdb (insV l (vhe cs x)) w cs)
    refine vg8 (vtf h fun y hy => ?_) h2 fun y hy => ?_
    · rintro ⟨e1, e2⟩
      rcases hc y hy with h3 | h3
      · have : (y.2.2.2 : Int) = cs := e2
        rw [this] at h3; exact Int.lt_irrefl _ h3
      · exact h3 x (List.mem_cons_self ..) e1
    · rcases vwm.1 hy with hy | hy
      · rcases hc y hy with h3 | h3
        · exact .inl h3
        · exact .inr fun z hz => h3 z (List.mem_cons_of_mem _ hz)
      · refine .inr fun z hz e => ?_
        have := h1 z hz
        rw [hy] at e
        have e' : x.1 = z.1 := e
        rw [e', vcp] at this
        cases this
theorem vj0 {α β : Type} (p : α → Bool) (f : α → β) : ∀ l : List α, l.filterMap (fun x => bif p x then some (f x) else none) = (l.filter p).map f
  | [] => rfl
  | x :: l => by
    rw [List.filterMap_cons, List.filter_cons, vj0 p f l]
    cases p x <;> rfl
end
end Go.VE
/- Plain laws: draws of writes and versions, exactly. -/
namespace Go.VE
noncomputable section
set_option linter.unusedVariables false
set_option linter.unusedSimpArgs false
set_option maxRecDepth 100000
theorem v3a : ∀ x ∈ [(⟨#[97]⟩ : ByteArray), (⟨#[98]⟩ : ByteArray), (⟨#[99]⟩ : ByteArray), (⟨#[100]⟩ : ByteArray), (⟨#[97, 98]⟩ : ByteArray)], vl0 x = true := by decide
theorem v7l {l : List Int} {p s : Int} (h : Dr l p) : Gives (vi7 l p s) (fun y => vl0 y.1 = true ∧ Dr y.2.1 y.2.2.1) := by
  rw [vw1]
  unfold vse
  exact (v01 (Q := fun x => vl0 x = true) v3a (by decide) (by decide) h).bind (fun y hy => vaj hy)
theorem v8q {l : List Int} {p s : Int} (h : Dr l p) : Gives (vrq l p s) (fun y => vch (y.1, (y.2.1, y.2.2.1)) = true ∧ Dr y.2.2.2.1 y.2.2.2.2.1) := by
  rw [v04]
  unfold vwl
  refine (v7l h).bind (fun y1 h1 => (v01 (Q := fun x => (x.size : Int) ≤ 12) (by decide) (by decide) (by decide) h1.2).bind (fun y2 h2 => (vve (by decide) (by decide) h2.2).bind (fun y3 h3 => va7 (fun _ => vaj ⟨?_, h3⟩) (fun _ => vaj ⟨?_, h3⟩))))
  · unfold vch
    rw [h1.1, vbu]; rfl
  · unfold vch
    dsimp only
    rw [h1.1, decide_eq_true h2.1]; rfl
/-- Right writes: keys ascend, each is right; at most n. -/
def okX (n : Nat) (w : List tWrite.D) : Prop := ascW w ∧ (∀ y ∈ w, vch y = true) ∧ w.length ≤ n
theorem vwj {n m : Nat} {w} (h : okX n w) (hm : n ≤ m) : okX m w := ⟨h.1, h.2.1, Nat.le_trans h.2.2 hm⟩
theorem v6x {n : Nat} {w} (h : okX n w) : okW n w := ⟨h.2.2, fun y hy => by have := vp4 (h.2.1 y hy); omega⟩
theorem vgt {w : tWrite.D} (h : vch w = true) (hg : w.2.2 = true) : w.2.1 = ⟨#[]⟩ := by
  unfold vch at h
  simp only [Bool.and_eq_true, hg, Bool.not_true, Bool.false_or] at h
  exact vd6 h.2
theorem v1v {n : Nat} {l : List tWrite.D} (h : okX n l) {w : tWrite.D} (hw : vch w = true) : okX (n + 1) (putB l w) := by
  refine ⟨(v6e (l := l) ⟨h.1, fun y hy hg => vgt (h.2.1 y hy) hg⟩ (w := w) (vgt hw)).1, fun y hy => ?_, Nat.le_trans (vsz l w) (Nat.succ_le_succ h.2.2)⟩
  rcases v1s hy with hy | rfl
  · exact h.2.1 y hy
  · exact hw
theorem vxz : ∀ (m i : Nat) (l : List Int) (p s : Int) (acc : List tWrite.D) (n : Nat), i + m = 3 → m < n → okX i acc → Dr l p →
    Gives (vac vip n ((i : Int), l, p, s, acc)) (fun z => Dr z.2.1 z.2.2.1 ∧ okX 3 z.2.2.2.2) := by
  intro m
  induction m with
  | zero =>
    intro i l p s acc n hm hn ha h
    obtain ⟨n, rfl⟩ : ∃ q, n = q + 1 := ⟨n - 1, by omega⟩
    apply vcm
    unfold vip
    refine (vgi (by decide) (by decide) h).bind (fun y hy => va7 (fun c => by have c := of_decide_eq_true c; have := hy.2.1; dsimp only at c; omega) (fun _ => vaj (vjb ⟨hy.2.2, vwj ha (by omega)⟩)))
  | succ m ih =>
    intro i l p s acc n hm hn ha h
    obtain ⟨n, rfl⟩ : ∃ q, n = q + 1 := ⟨n - 1, by omega⟩
    have hlen := ha.2.2
    apply vcm
    unfold vip
    have hput : ∀ (w : tWrite.D), vch w = true → Gives (vmo acc w) (fun z => okX (i + 1) z) := fun w hw => ⟨putB acc w, v1v ha hw, fun k => v5o (by omega) w k⟩
    refine (vgi (by decide) (by decide) h).bind (fun y hy => va7 (fun c => (v8q hy.2.2).bind (fun y3 h3 => (hput _ h3.1).bind (fun y4 h4 => vaj (vvb ?_)))) (fun _ => vaj (vjb ⟨hy.2.2, vwj ha (by omega)⟩)))
    have e : IntKind.wrap .i64 ((i : Int) + 1) = ((i + 1 : Nat) : Int) := vbe (by omega)
    simp only [e]
    exact ih (i + 1) _ _ _ _ n (by omega) (by omega) h4 h3.2
theorem v52 (n : Nat) : okX n [] := ⟨List.Pairwise.nil, (fun y hy => by simp at hy), Nat.zero_le _⟩
theorem v40 {l : List Int} {p s : Int} (h : Dr l p) : Gives (vn0 l p s) (fun y => Dr y.1 y.2.1 ∧ okX 3 y.2.2.2) := by
  rw [v0b]
  unfold vwq
  exact (vxz 3 0 l p s [] Fuel rfl (by have := vbp; omega) (v52 _) h).bind (fun z hz => vaj hz)
/-- Right versions: in order, each is right, no number above n; at most 3 for each number. -/
def okZ (n : Nat) (l : List tVersion.D) : Prop := vkf l ∧ (∀ y ∈ l, vj8 y = true ∧ (y.2.2.2 : Int) ≤ (n : Int)) ∧ l.length ≤ 3 * n
theorem vv3 {n m : Nat} {w} (h : okZ n w) (hm : n ≤ m) : okZ m w := ⟨h.1, fun y hy => ⟨(h.2.1 y hy).1, Int.le_trans (h.2.1 y hy).2 (by omega)⟩, Nat.le_trans h.2.2 (by omega)⟩
theorem v11 {w : tWrite.D} (h : vch w = true) {cs : Int} (h1 : 1 ≤ cs) (h2 : cs ≤ 9999) : vj8 (vhe cs w) = true := by
  unfold vch at h
  unfold vj8 vhe vpo
  simp only [Bool.and_eq_true] at h
  simp only [h.1.1, h.1.2, h.2, Bool.true_and]
  rw [Bool.and_eq_true, decide_eq_true_eq, decide_eq_true_eq]
  exact ⟨h1, h2⟩
theorem v6q {n : Nat} (hn : n ≤ 100) {l : List tVersion.D} (h : okZ n l) {w : List tWrite.D} (hw : okX 3 w) : okZ (n + 1) (vdb l w ((n + 1 : Nat) : Int)) := by
  refine ⟨vg8 h.1 hw.1 fun y hy => .inl ?_, fun y hy => ?_, ?_⟩
  · have := (h.2.1 y hy).2
    exact Int.lt_of_le_of_lt this (by omega)
  · rcases vku.1 hy with hy | ⟨x, hx, rfl⟩
    · exact ⟨(h.2.1 y hy).1, Int.le_trans (h.2.1 y hy).2 (by omega)⟩
    · exact ⟨v11 (hw.2.1 x hx) (by omega) (by omega), Int.le_refl _⟩
  · have h1 := h.2.2
    have h2 := hw.2.2
    rw [vhl]
    omega
theorem vzv : ∀ (m i : Nat) (l : List Int) (p s : Int) (acc : List tVersion.D) (n : Nat), i + m = 7 → m < n → okZ i acc → Dr l p →
    Gives (vac vi5 n ((i : Int), l, p, s, acc)) (fun z => Dr z.2.1 z.2.2.1 ∧ okZ 7 z.2.2.2.2) := by
  intro m
  induction m with
  | zero =>
    intro i l p s acc n hm hn ha h
    obtain ⟨n, rfl⟩ : ∃ q, n = q + 1 := ⟨n - 1, by omega⟩
    apply vcm
    unfold vi5
    refine (vgi (by decide) (by decide) h).bind (fun y hy => va7 (fun c => by have c := of_decide_eq_true c; have := hy.2.1; dsimp only at c; omega) (fun _ => vaj (vjb ⟨hy.2.2, vv3 ha (by omega)⟩)))
  | succ m ih =>
    intro i l p s acc n hm hn ha h
    obtain ⟨n, rfl⟩ : ∃ q, n = q + 1 := ⟨n - 1, by omega⟩
    have hlen := ha.2.2
    apply vcm
    unfold vi5
    have e : IntKind.wrap .i64 ((i : Int) + 1) = ((i + 1 : Nat) : Int) := vbe (by omega)
    have hput : ∀ (w : List tWrite.D), okX 3 w → Gives (voa acc w ((i + 1 : Nat) : Int)) (fun z => okZ (i + 1) z) := fun w hw => ⟨vdb acc w ((i + 1 : Nat) : Int), v6q (by omega) ha hw, fun k => v5u (by omega) (by have := hw.2.2; omega) _ k⟩
    refine (vgi (by decide) (by decide) h).bind (fun y hy => va7 (fun c => (v40 hy.2.2).bind (fun y3 h3 => ?_)) (fun _ => vaj (vjb ⟨hy.2.2, vv3 ha (by omega)⟩)))
    simp only [e]
    exact (hput _ h3.2).bind (fun y4 h4 => vaj (vvb (ih (i + 1) _ _ _ _ n (by omega) (by omega) h4 h3.1)))
theorem v59 (n : Nat) : okZ n [] := ⟨List.Pairwise.nil, (fun y hy => by simp at hy), Nat.zero_le _⟩
theorem v8i {l : List Int} {p s : Int} (h : Dr l p) : Gives (vrj l p s) (fun y => Dr y.1 y.2.1 ∧ okZ 7 y.2.2.2) := by
  rw [v0g]
  unfold vwa
  exact (vzv 7 0 l p s [] Fuel rfl (by have := vbp; omega) (v59 _) h).bind (fun z hz => vaj hz)
theorem v7x {a0 : List Int} (hl : a0.length ≤ 1048576) : Gives (vnp a0) (okZ 7) := by
  rw [v0t]
  unfold vwv
  exact (v5g hl).bind (fun y1 h1 => (v8i h1).bind (fun y2 h2 => vaj h2.2))
theorem vnh {x : List tRange.D} (hl : x.length ≤ 1048576) (k) : vl9 x x k = k true := by
  have loop : ∀ (l : List tRange.D) (i : Nat) (u2 : Bool), x.drop i = l → ∃ j : Int, ∀ k, vg3 x x u2 l i k = k (.inr j) := by
    intro l
    induction l with
    | nil => exact fun i u2 hd => ⟨(i : Int), fun k => rfl⟩
    | cons y l ih =>
      intro i u2 hd
      have hlt := vcf hd
      obtain ⟨j, hj⟩ := ih (i + 1) u2 (val hd)
      have h1 := (va8 hd).1
      have h2 := (va8 hd).2
      refine ⟨j, fun k => ?_⟩
      simp only [vg3, h1, h2, show (0 : Int) ≤ (i : Int) by omega, show (i : Int) < (x.length : Int) by omega, and_self, if_true, vbu, Bool.not_true, cond_false, Int.toNat_natCast, hj, Ty.eqB, Bool.and_self]
  rw [v74 (by omega)]
  unfold v1a
  obtain ⟨j, hj⟩ := loop x 0 false rfl
  simp only [bne_self_eq_false, cond_false, hj, Sum.elim_inr]
end
end Go.VE
/- Plain laws: what is seen behind new versions; what who looks sees. -/
namespace Go.VE
noncomputable section
set_option linter.unusedVariables false
set_option linter.unusedSimpArgs false
set_option maxRecDepth 100000
theorem v1q {w : List tWrite.D} (h : ascW w) {x : tWrite.D} (hx : x ∈ w) : w.find? (fun y => vao y.1 x.1) = some x := by
  induction w with
  | nil => cases hx
  | cons y w ih =>
    obtain ⟨h1, h2⟩ := List.pairwise_cons.1 h
    rw [List.find?_cons]
    rcases List.mem_cons.1 hx with e | hx
    · rw [e, vbu]
    · have hne : vao y.1 x.1 = false := by
        cases hs : vao y.1 x.1 with
        | false => rfl
        | true =>
          have := h1 x hx
          rw [vd6 hs, vcp] at this
          cases this
      rw [hne]
      exact ih h2 hx
theorem v1c {t : tTxn.D} (h : ascW t.2.2.2.2.2.1) {x : tWrite.D} (hx : x ∈ t.2.2.2.2.2.1) (l : List tVersion.D) : vbc t l x.1 = bif x.2.2 then (⟨#[]⟩, false) else (x.2.1, true) := by
  unfold vbc
  rw [v1q h hx]
theorem von {t : tTxn.D} (ht : tTxn.wt t ≤ 1048576) {n : Nat} (hw : okX n t.2.2.2.2.2.1) {l : List tVersion.D} (hl : l.length ≤ 1048576) {u0 u9} : ∀ (m : List tWrite.D) (i : Nat), (∀ x ∈ m, x ∈ t.2.2.2.2.2.1) → ∃ j : Int, ∀ k,
    vit u0 t.1 t.2.1 t.2.2.1 t.2.2.2.1 t.2.2.2.2.2.2.1 t.2.2.2.2.2.2.2 l u9 t.2.2.2.2.1 t.2.2.2.2.2.1 m i k = k (.inr j)
  | [], i, _ => ⟨(i : Int), fun k => rfl⟩
  | x :: m, i, hm => by
    obtain ⟨j, hj⟩ := von ht hw hl (u0 := u0) (u9 := u9) m (i + 1) (fun z hz => hm z (List.mem_cons_of_mem _ hz))
    have hx := hm x (List.mem_cons_self ..)
    refine ⟨j, fun k => ?_⟩
    simp only [vit, vdx, vmm ht hl, v1c hw.1 hx, hj]
    cases hg : x.2.2 with
    | false => simp only [cond_false, vbu, Bool.not_true]; rfl
    | true =>
      have e : x.2.1 = ⟨#[]⟩ := vgt (hw.2.1 x hx) hg
      simp only [cond_true, e, vbu, Bool.not_true, cond_false]; rfl
theorem vtk (t : tTxn.D) (l : List tVersion.D) (r : tRange.D) : (vbr t l r).Pairwise (fun a b => vab a.1 b.1 = true) ∧ ∀ p ∈ vbr t l r, vbc t l p.1 = (p.2, true) := by
  unfold vbr
  have ha := (vfd r (l ++ t.2.2.2.2.2.1.map asV) [] List.Pairwise.nil).1
  have e : ∀ ks : List ByteArray, ks.filterMap (ownF t l) = (ks.filter fun k => (vbc t l k).2).map fun k => (k, (vbc t l k).1) := fun ks => vj0 _ _ _
  rw [e]
  constructor
  · rw [List.pairwise_map]
    exact List.Pairwise.filter _ ha
  · intro p hp
    obtain ⟨k, hk, rfl⟩ := List.mem_map.1 hp
    have := (List.mem_filter.1 hk).2
    show vbc t l k = ((vbc t l k).1, true)
    rw [← this]
theorem vov {t : tTxn.D} (ht : tTxn.wt t ≤ 1048576) {l : List tVersion.D} (hl : l.length ≤ 1048576) {M : List tRange.D} (hM : M.Pairwise fun a b => vab a.1 b.1 = true) (ho : ∀ p ∈ M, vbc t l p.1 = (p.2, true)) (hML : M.length ≤ 1048576) {u0} : ∀ (m : List tRange.D) (i : Nat), M.drop i = m → ∃ j : Int, ∀ k,
    vg5 u0 t.1 t.2.1 t.2.2.1 t.2.2.2.1 t.2.2.2.2.2.2.1 t.2.2.2.2.2.2.2 l M t.2.2.2.2.1 t.2.2.2.2.2.1 m i k = k (.inr j)
  | [], i, _ => ⟨(i : Int), fun k => rfl⟩
  | x :: m, i, hd => by
    have hlt := vcf hd
    obtain ⟨j, hj⟩ := vov ht hl hM ho hML (u0 := u0) m (i + 1) (val hd)
    have hx := vmh hd
    refine ⟨j, fun k => ?_⟩
    simp only [vg5, vdx, vmm ht hl, ho x hx, Bool.not_true, cond_false, vbu, hj]
    by_cases h0 : i = 0
    · subst h0; rfl
    · have hw : IntKind.wrap .i64 ((i : Int) - 1) = ((i - 1 : Nat) : Int) := by rw [vl6 (by omega) (by omega)]; omega
      have hlt2 : i - 1 < M.length := by omega
      have hg : M.getD (i - 1) (Ty.zero tRange) = M[i - 1] := by simp [List.getD, List.getElem?_eq_getElem hlt2]
      have hxx : M[i] = x := by
        have := (va8 hd).2 (Ty.zero tRange)
        simpa [List.getD, List.getElem?_eq_getElem hlt] using this
      have hless : vab M[i - 1].1 x.1 = true := by
        have := List.pairwise_iff_getElem.1 hM (i - 1) i hlt2 hlt (by omega)
        rw [hxx] at this
        exact this
      simp only [decide_eq_true (show (i : Int) > 0 by omega), cond_true, hw, Int.toNat_natCast]
      rw [if_pos ⟨by omega, by omega⟩, hg, hless]
      rfl
theorem v3r {t : tTxn.D} (h : t.2.2.2.2.2.1 = []) (l : List tVersion.D) (r : tRange.D) : vbr t l r = vrt l r t.2.2.1 := by
  unfold vbr vrt
  rw [h, List.map_nil, List.append_nil]
  have e : ownF t l = seeF l t.2.2.1 := by
    funext k
    unfold ownF seeF vbc
    rw [h]; rfl
  rw [e]
theorem v73 {l : List Int} {p s : Int} (h : Dr l p) : Gives (vrr l p s) (fun y => OkT y ∧ okX 3 y.2.2.2.2.2.2.2.2.2.2) := by
  rw [v1i]
  unfold vvv
  refine (vgi (by decide) (by decide) h).bind (fun y1 h1 => (vgi (by decide) (by decide) h1.2.2).bind (fun y2 h2 => (vgi (by decide) (by decide) h2.2.2).bind (fun y3 h3 => (v8f h3.2.2).bind (fun y4 h4 => (v40 h4.1).bind (fun y5 h5 => ?_)))))
  have r4 := vph h4.2 (show 3 ≤ 4 by decide)
  have r5 := vvl (v6x h5.2) (show 3 ≤ 65 by decide)
  refine va7 (fun _ => (vyn h5.1).bind (fun y6 h6 => (vve (by decide) (by decide) h6.2).bind (fun y7 h7 => vaj ⟨⟨h6.1, h7, r4, r5⟩, h5.2⟩))) (fun _ => va7 (fun _ => (vgi (by decide) (by decide) h5.1).bind (fun y8 h8 => (vve (by decide) (by decide) h8.2.2).bind (fun y9 h9 => vaj ⟨⟨v7e, h9, r4, r5⟩, h5.2⟩))) (fun _ => vaj ⟨⟨v7e, h5.1, r4, r5⟩, h5.2⟩))
theorem v7k {a0 : List Int} (hl : a0.length ≤ 1048576) : Gives (vof a0) (fun y => y.2.2.2.2.2.1.size ≤ 20 ∧ okR 4 y.2.2.2.2.2.2.1 ∧ okX 3 y.2.2.2.2.2.2.2) := by
  rw [v0c]
  unfold vu3
  exact (v5g hl).bind (fun y1 h1 => (v73 h1).bind (fun y2 h2 => vaj ⟨h2.1.1, h2.1.2.2.1, h2.2⟩))
end
end Go.VE
/- The plain laws. -/
namespace Go.VE
set_option linter.unusedVariables false
set_option linter.unusedSimpArgs false
set_option maxRecDepth 100000
theorem vzt (x : (Ty.slice (.int .u8)).D) (hx : (Ty.slice (.int .u8)).wf x) (k : Bool → Option Res) : vsl x k = k true := by
  rw [v8o]
  unfold v09
  rw [v6c]
  by_cases hl : (x.length : Int) > 1048576
  · simp only [hl, decide_true, cond_true]
  simp only [hl, decide_false, cond_false]
  obtain ⟨⟨i1, s1, n1, c1, f1, m1, r1, w1⟩, ⟨a1, a2, a3⟩, e1⟩ := v7k (a0 := x) (by omega)
  obtain ⟨l, hL, e2⟩ := v7x (a0 := x) (by omega)
  dsimp only at a1 a2 a3
  have h1 := hL.2.2
  have h2 := a3.2.2
  have ll : l.length ≤ 1048576 := by omega
  have wt : tTxn.wt (i1, (s1, (n1, (c1, (r1, (w1, (f1, m1))))))) ≤ 1048576 := vwx a1 a2 (vvl (v6x a3) (by decide))
  have wt0 : tTxn.wt (i1, (s1, (n1, (c1, (r1, (([] : List vah), (f1, m1))))))) ≤ 1048576 := vwx a1 a2 (v6l _)
  have hsum : l.length + w1.length ≤ 1048576 := by omega
  obtain ⟨j0, hj0⟩ := von (t := (i1, (s1, (n1, (c1, (r1, (w1, (f1, m1)))))))) wt a3 ll (u0 := false) (u9 := vbr (i1, (s1, (n1, (c1, (r1, (w1, (f1, m1))))))) l allR) w1 0 (fun z hz => hz)
  obtain ⟨o1, o2⟩ := vtk (i1, (s1, (n1, (c1, (r1, (w1, (f1, m1))))))) l allR
  have ol := vmw (i1, (s1, (n1, (c1, (r1, (w1, (f1, m1))))))) l allR
  dsimp only at ol
  have ol2 : (vbr (i1, (s1, (n1, (c1, (r1, (w1, (f1, m1))))))) l allR).length ≤ 1048576 := Nat.le_trans ol hsum
  obtain ⟨j2, hj2⟩ := vov (t := (i1, (s1, (n1, (c1, (r1, (w1, (f1, m1)))))))) wt ll o1 o2 ol2 (u0 := false) (vbr (i1, (s1, (n1, (c1, (r1, (w1, (f1, m1))))))) l allR) 0 rfl
  have hz := v3r (t := (i1, (s1, (n1, (c1, (r1, (([] : List vah), (f1, m1)))))))) rfl l allR
  have hI := fun k => v07 (t := (i1, (s1, (n1, (c1, (r1, (w1, (f1, m1)))))))) wt (l := l) hsum allR k
  have hS := fun k => v5q (t := (i1, (s1, (n1, (c1, (r1, (w1, (f1, m1)))))))) wt (l := l) hsum allR k
  have hI0 := fun k => v07 (t := (i1, (s1, (n1, (c1, (r1, (([] : List vah), (f1, m1)))))))) wt0 (l := l) (show l.length + ([] : List vah).length ≤ 1048576 by simpa using ll) allR k
  have hsl := fun n => vnh (x := vrt l allR n) (by have := vrk l allR n; omega)
  dsimp only at hj0 hj2 hz
  have hall : ∀ K, vgg K = K allR := fun K => by rw [vy9]; rfl
  simp only [e1, e2, hall, hI, v1z (show w1.length < 9223372036854775807 by omega), hj0, Sum.elim_inr, v3j (show (vbr (i1, (s1, (n1, (c1, (r1, (w1, (f1, m1))))))) l allR).length < 9223372036854775807 by omega), hj2, hI0, hz, v6i ll, hsl, cond_true, hS, beq_self_eq_true]
end Go.VE
