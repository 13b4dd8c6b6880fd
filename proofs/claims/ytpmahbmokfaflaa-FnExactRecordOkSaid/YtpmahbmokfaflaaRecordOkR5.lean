/- Plain laws of the draws: each gives, whatever the bytes. -/
import Derived.Test.YtpmahbmokfaflaaRecordOkR4
namespace Go.VE
noncomputable section
set_option linter.unusedVariables false
set_option linter.unusedSimpArgs false
set_option maxRecDepth 100000

/-- A native program that hands on one value, of which this holds. -/
def Gives {α : Type} (F : (α → Option Res) → Option Res) (Q : α → Prop) : Prop := ∃ v, Q v ∧ ∀ k, F k = k v

theorem gives_ret {α : Type} {v : α} {Q : α → Prop} (h : Q v) : Gives (fun k => k v) Q := ⟨v, h, fun _ => rfl⟩
theorem Gives.bind {α β : Type} {F : (β → Option Res) → Option Res} {R : β → Prop} (hF : Gives F R) {H : β → (α → Option Res) → Option Res} {Q : α → Prop} (hH : ∀ v, R v → Gives (H v) Q) : Gives (fun k => F fun v => H v k) Q := by
  obtain ⟨v, h1, h2⟩ := hF
  obtain ⟨y, h3, h4⟩ := hH v h1
  exact ⟨y, h3, fun k => (h2 _).trans (h4 k)⟩
theorem gives_bif {α : Type} {c : Bool} {F G : (α → Option Res) → Option Res} {Q : α → Prop} (hF : c = true → Gives F Q) (hG : c = false → Gives G Q) : Gives (fun k => bif c then F k else G k) Q := by
  cases c
  · exact hG rfl
  · exact hF rfl
theorem gives_ite {α : Type} {c : Prop} [Decidable c] {F : (α → Option Res) → Option Res} {Q : α → Prop} (hc : c) (hF : Gives F Q) : Gives (fun k => if c then F k else none) Q := by
  simp only [hc, if_true]; exact hF
theorem gives_itn {α : Type} {c : Prop} [Decidable c] {F : (α → Option Res) → Option Res} {Q : α → Prop} (hc : ¬ c) (hF : Gives F Q) : Gives (fun k => if c then none else F k) Q := by
  simp only [hc, if_false]; exact hF
theorem Gives.mono {α : Type} {F : (α → Option Res) → Option Res} {Q R : α → Prop} (h : Gives F Q) (hq : ∀ v, Q v → R v) : Gives F R := by
  obtain ⟨v, h1, h2⟩ := h
  exact ⟨v, hq v h1, h2⟩
theorem gives_loop {β γ : Type} {b : β → (β ⊕ γ → Option Res) → Option Res} {x : β} {n : Nat} {Q : γ → Prop} (h : Gives (b x) (fun r => (∀ y, r = .inl y → Gives (loopK b n y) Q) ∧ ∀ z, r = .inr z → Q z)) : Gives (loopK b (n + 1) x) Q := by
  obtain ⟨v, h1, h2⟩ := h
  cases v with
  | inl y =>
    obtain ⟨w, h3, h4⟩ := h1.1 y rfl
    exact ⟨w, h3, fun k => by rw [loopK, h2]; exact h4 k⟩
  | inr z => exact ⟨z, h1.2 z rfl, fun k => by rw [loopK, h2]; rfl⟩

theorem go_inl {β γ : Type} {Q : γ → Prop} {G : β → Prop} {y : β} (h : G y) : (∀ x, (Sum.inl y : β ⊕ γ) = .inl x → G x) ∧ ∀ z, (Sum.inl y : β ⊕ γ) = .inr z → Q z := ⟨fun _ e => by cases e; exact h, fun _ e => (nomatch e)⟩
theorem go_inr {β γ : Type} {Q : γ → Prop} {G : β → Prop} {z : γ} (h : Q z) : (∀ x, (Sum.inr z : β ⊕ γ) = .inl x → G x) ∧ ∀ w, (Sum.inr z : β ⊕ γ) = .inr w → Q w := ⟨fun _ e => (nomatch e), fun _ e => by cases e; exact h⟩

theorem size0 : (⟨#[]⟩ : ByteArray).size ≤ 20 := by decide
def Dr (l : List Int) (p : Int) : Prop := l.length ≤ 1048576 ∧ 0 ≤ p
def okR (n : Nat) (l : List tRange.D) : Prop := l.length ≤ n ∧ ∀ y ∈ l, y.1.size ≤ 20 ∧ y.2.size ≤ 20
def okW (n : Nat) (l : List tWrite.D) : Prop := l.length ≤ n ∧ ∀ y ∈ l, y.1.size ≤ 20 ∧ y.2.1.size ≤ 20
theorem okR_more {n m : Nat} {l} (h : okR n l) (hm : n ≤ m) : okR m l := ⟨Nat.le_trans h.1 hm, h.2⟩
theorem okW_more {n m : Nat} {l} (h : okW n l) (hm : n ≤ m) : okW m l := ⟨Nat.le_trans h.1 hm, h.2⟩
theorem okR_nil (n : Nat) : okR n [] := ⟨Nat.zero_le _, fun y hy => by cases hy⟩
theorem okW_nil (n : Nat) : okW n [] := ⟨Nat.zero_le _, fun y hy => by cases hy⟩
theorem okR_one {a b : ByteArray} (ha : a.size ≤ 20) (hb : b.size ≤ 20) : okR 1 [(a, b)] := ⟨Nat.le_refl _, fun y hy => by rw [List.mem_singleton] at hy; rw [hy]; exact ⟨ha, hb⟩⟩
theorem okW_one {w : tWrite.D} (ha : w.1.size ≤ 20) (hb : w.2.1.size ≤ 20) : okW 1 [w] := ⟨Nat.le_refl _, fun y hy => by rw [List.mem_singleton] at hy; rw [hy]; exact ⟨ha, hb⟩⟩
theorem okR_append {n m : Nat} {a b} (ha : okR n a) (hb : okR m b) : okR (n + m) (a ++ b) :=
  ⟨by have := ha.1; have := hb.1; rw [List.length_append]; omega, fun y hy => (List.mem_append.mp hy).elim (ha.2 y) (hb.2 y)⟩
theorem okW_append {n m : Nat} {a b} (ha : okW n a) (hb : okW m b) : okW (n + m) (a ++ b) :=
  ⟨by have := ha.1; have := hb.1; rw [List.length_append]; omega, fun y hy => (List.mem_append.mp hy).elim (ha.2 y) (hb.2 y)⟩

theorem rd_mem {α : Type} {d : α} {xs : List α} {i : Int} (h0 : 0 ≤ i) (h1 : i < (xs.length : Int)) : rd d xs i ∈ xs := by
  have h : i.toNat < xs.length := by omega
  have e : rd d xs i = xs[i.toNat] := by unfold rd; simp [List.getD, List.getElem?_eq_getElem h]
  rw [e]
  exact List.getElem_mem h

theorem and255 (v : BitVec (IntKind.bits .i64)) : 0 ≤ IntKind.wrap .i64 ((v &&& BitVec.ofInt (IntKind.bits .i64) (255 : Int)).toNat : Int) ∧ IntKind.wrap .i64 ((v &&& BitVec.ofInt (IntKind.bits .i64) (255 : Int)).toNat : Int) ≤ 255 := by
  have h : (v &&& BitVec.ofInt (IntKind.bits .i64) (255 : Int)).toNat ≤ 255 := by
    rw [BitVec.toNat_and]
    exact Nat.le_trans Nat.and_le_right (by decide)
  rw [wrap64 (by omega) (by omega)]
  omega

/-- What a drawn transaction is: its Id, name, ranges and writes small; the draw goes on. -/
def OkT (y : Int × Int × Int × Int × Bool × ByteArray × List Int × Int × Int × List tRange.D × List tWrite.D) : Prop :=
  y.2.2.2.2.2.1.size ≤ 20 ∧ Dr y.2.2.2.2.2.2.1 y.2.2.2.2.2.2.2.1 ∧ okR 4 y.2.2.2.2.2.2.2.2.2.1 ∧ okW 65 y.2.2.2.2.2.2.2.2.2.2

theorem wrap1 {n : Int} (h0 : 0 ≤ n) (h1 : n < 100000) : IntKind.wrap .i64 ((1 : Int) + n) = 1 + n := wrap64 (by omega) (by omega)

theorem push_size : ∀ (l : List Int) (f : Int → UInt8) (s : ByteArray), (l.foldl (fun s n => s.push (f n)) s).size = s.size + l.length
  | [], f, s => rfl
  | n :: l, f, s => by
    rw [List.foldl_cons, push_size l f, ByteArray.size_push, List.length_cons]; omega

theorem wtL_le {T : Ty} {c : Nat} : ∀ {l : List T.D}, (∀ y ∈ l, T.wt y ≤ c) → wtL T l ≤ c * l.length
  | [], _ => by simp [wtL]
  | y :: l, h => by
    have h1 := h y (by simp)
    have h2 := wtL_le (l := l) (fun z hz => h z (List.mem_cons_of_mem y hz))
    simp only [wtL, List.length_cons, Nat.mul_add]; omega

theorem wt_small {a b c d : Int} {f : Bool} {n : ByteArray} {r : List tRange.D} {w : List tWrite.D} (hn : n.size ≤ 20) (hr : okR 4 r) (hw : okW 65 w) : tTxn.wt (a, (b, (c, (d, (r, (w, (f, n))))))) ≤ 1048576 := by
  have e := wtTxn (a, (b, (c, (d, (r, (w, (f, n)))))))
  have h1 := wtL_le (T := tRange) (c := 40) (l := r) (fun y hy => by have := hr.2 y hy; rw [wtRange]; omega)
  have h2 := wtL_le (T := tWrite) (c := 40) (l := w) (fun y hy => by have := hw.2 y hy; rw [wtWrite]; omega)
  rw [Ty.wt_slice, Ty.wt_slice] at e
  have := hr.1
  have := hw.1
  dsimp only at e
  omega

/-- Two drawn transactions, both small. -/
def OkP (y : Int × Int × Int × Int × Bool × ByteArray × Int × Int × Int × Int × Bool × ByteArray × List tRange.D × List tWrite.D × List tRange.D × List tWrite.D) : Prop :=
  y.2.2.2.2.2.1.size ≤ 20 ∧ y.2.2.2.2.2.2.2.2.2.2.2.1.size ≤ 20 ∧ okR 4 y.2.2.2.2.2.2.2.2.2.2.2.2.1 ∧ okW 65 y.2.2.2.2.2.2.2.2.2.2.2.2.2.1 ∧ okR 4 y.2.2.2.2.2.2.2.2.2.2.2.2.2.2.1 ∧ okW 65 y.2.2.2.2.2.2.2.2.2.2.2.2.2.2.2

end
end Go.VE
