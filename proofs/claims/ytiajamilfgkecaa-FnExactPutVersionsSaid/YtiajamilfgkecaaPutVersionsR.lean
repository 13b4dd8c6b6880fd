/- The plain laws behind FnExactPutVersions. -/
import Derived.Test.YtiajamilfgkecaaPutVersionsL
import Derived.Test.YtiajamilfgkecaaP3
/- Plain laws of the draws: each gives, whatever the bytes. -/
namespace Go.VE
noncomputable section
set_option linter.unusedVariables false
set_option linter.unusedSimpArgs false
set_option maxRecDepth 100000
/-- A native program that hands on one value, of which this holds. -/
def Gives {α : Type} (F : (α → Option Res) → Option Res) (Q : α → Prop) : Prop := ∃ v, Q v ∧ ∀ k, F k = k v
theorem vg4 {α : Type} {v : α} {Q : α → Prop} (h : Q v) : Gives (fun k => k v) Q := ⟨v, h, fun _ => rfl⟩
theorem Gives.bind {α β : Type} {F : (β → Option Res) → Option Res} {R : β → Prop} (hF : Gives F R) {H : β → (α → Option Res) → Option Res} {Q : α → Prop} (hH : ∀ v, R v → Gives (H v) Q) : Gives (fun k => F fun v => H v k) Q := by
  obtain ⟨v, h1, h2⟩ := hF
  obtain ⟨y, h3, h4⟩ := hH v h1
  exact ⟨y, h3, fun k => (h2 _).trans (h4 k)⟩
theorem vl3 {α : Type} {c : Bool} {F G : (α → Option Res) → Option Res} {Q : α → Prop} (hF : c = true → Gives F Q) (hG : c = false → Gives G Q) : Gives (fun k => bif c then F k else G k) Q := by
  cases c
  · exact hG rfl
  · exact hF rfl
theorem vqt {α : Type} {c : Prop} [Decidable c] {F : (α → Option Res) → Option Res} {Q : α → Prop} (hc : c) (hF : Gives F Q) : Gives (fun k => if c then F k else none) Q := by
  simp only [hc, if_true]; exact hF
theorem Gives.mono {α : Type} {F : (α → Option Res) → Option Res} {Q R : α → Prop} (h : Gives F Q) (hq : ∀ v, Q v → R v) : Gives F R := by
  obtain ⟨v, h1, h2⟩ := h
  exact ⟨v, hq v h1, h2⟩
theorem vni {β γ : Type} {b : β → (β ⊕ γ → Option Res) → Option Res} {x : β} {n : Nat} {Q : γ → Prop} (h : Gives (b x) (fun r => (∀ y, r = .inl y → Gives (vai b n y) Q) ∧ ∀ z, r = .inr z → Q z)) : Gives (vai b (n + 1) x) Q := by
  obtain ⟨v, h1, h2⟩ := h
  cases v with
  | inl y =>
    obtain ⟨w, h3, h4⟩ := h1.1 y rfl
    exact ⟨w, h3, fun k => by rw [vai, h2]; exact h4 k⟩
  | inr z => exact ⟨z, h1.2 z rfl, fun k => by rw [vai, h2]; rfl⟩
theorem v1o {β γ : Type} {Q : γ → Prop} {G : β → Prop} {y : β} (h : G y) : (∀ x, (Sum.inl y : β ⊕ γ) = .inl x → G x) ∧ ∀ z, (Sum.inl y : β ⊕ γ) = .inr z → Q z := ⟨fun _ e => by cases e; exact h, fun _ e => (nomatch e)⟩
theorem vzy {β γ : Type} {Q : γ → Prop} {G : β → Prop} {z : γ} (h : Q z) : (∀ x, (Sum.inr z : β ⊕ γ) = .inl x → G x) ∧ ∀ w, (Sum.inr z : β ⊕ γ) = .inr w → Q w := ⟨fun _ e => (nomatch e), fun _ e => by cases e; exact h⟩
end
end Go.VE
/- Plain laws of the marks: what is marked in place is held. -/
namespace Go.VE
noncomputable section
set_option linter.unusedVariables false
set_option linter.unusedSimpArgs false
set_option maxRecDepth 100000
theorem vhx (n : Int) : (vic [n]).size = 1 := rfl
theorem voo : ∀ (m : Nat) (n : Int) (s : ByteArray) (q : Nat), n ≤ m → m < q → s.size + m ≤ 100000000 → Gives (vai vin q (n, s)) (fun z => z.2.size ≤ s.size + m) := by
  intro m
  induction m with
  | zero =>
    intro n s q hn hq hs
    obtain ⟨q, rfl⟩ : ∃ r, q = r + 1 := ⟨q - 1, by omega⟩
    apply vni
    unfold vin
    exact vl3 (fun c => by have c := of_decide_eq_true c; dsimp only at c; omega) (fun _ => vg4 (vzy (by dsimp only; omega)))
  | succ m ih =>
    intro n s q hn hq hs
    obtain ⟨q, rfl⟩ : ∃ r, q = r + 1 := ⟨q - 1, by omega⟩
    apply vni
    unfold vin
    refine vl3 (fun c => vqt ?_ (vg4 (v1o ?_))) (fun _ => vg4 (vzy (by dsimp only; omega)))
    · rw [vhx]; dsimp only; omega
    · have c := of_decide_eq_true c
      dsimp only at c
      have e : n.tdiv 10 = n / 10 := Int.tdiv_eq_ediv_of_nonneg (by omega)
      dsimp only
      rw [e, vd8 (by omega) (by omega)]
      refine (ih (n / 10) _ q (by omega) (by omega) (by rw [ByteArray.size_append, vhx]; omega)).mono (fun z hz => ?_)
      rw [ByteArray.size_append, vhx] at hz
      omega
theorem vud {n : Int} (h : n ≤ 10000000) : Gives (vds n) (fun _ => True) := by
  rw [vvn]
  unfold vt8
  refine vl3 (fun _ => vg4 trivial) (fun _ => (voo 10000000 n _ Fuel (by omega) (by have := vfk; omega) (by decide)).bind (fun z hz => vqt ?_ (vg4 trivial)))
  have : (⟨#[109]⟩ : ByteArray).size = 1 := rfl
  have : (⟨#[]⟩ : ByteArray).size = 0 := rfl
  omega
open Classical in
def vj7 (n : Int) : ByteArray := if h : ∃ v, ∀ k, vds n k = k v then Classical.choose h else ⟨#[]⟩
theorem vco {n : Int} (h : n ≤ 10000000) (k) : vds n k = k (vj7 n) := by
  obtain ⟨v, _, hv⟩ := vud h
  have h1 : ∃ v, ∀ k, vds n k = k v := ⟨v, hv⟩
  unfold vj7
  rw [dif_pos h1]
  exact Classical.choose_spec h1 k
theorem vvj {α : Type} (pre : List α) (y v : α) (l : List α) : (pre ++ y :: l).set pre.length v = pre ++ v :: l := by simp
theorem vs0 {α : Type} (pre : List α) (y d : α) (l : List α) : (pre ++ y :: l).getD pre.length d = y := by simp [List.getD]
def vvp : Int → List tWrite.D → List tWrite.D
  | _, [] => []
  | c, y :: l => (vj7 c, (vj7 (c + 1), ((c + 2).tmod 3 == 0))) :: vvp (c + 3) l
theorem vgj : ∀ (l pre : List tWrite.D) (c : Int) (q : Nat), 0 ≤ c → c + 3 * l.length ≤ 9000000 → pre.length + l.length ≤ 1048576 → l.length < q →
    ∃ j : Int, ∀ k, vai vh1 q (c, (pre.length : Int), pre ++ l) k = k (c + 3 * l.length, j, pre ++ vvp c l)
  | [], pre, c, q, h0, hc, hl, hq => by
    obtain ⟨q, rfl⟩ : ∃ r, q = r + 1 := ⟨q - 1, by omega⟩
    refine ⟨pre.length, fun k => ?_⟩
    simp only [vai, vh1, List.append_nil, Int.lt_irrefl, decide_false, cond_false, Sum.elim_inr, List.length_nil, vvp]
    simp
  | y :: l, pre, c, q, h0, hc, hl, hq => by
    obtain ⟨q, rfl⟩ : ∃ r, q = r + 1 := ⟨q - 1, by omega⟩
    simp only [List.length_cons] at hc hl hq
    obtain ⟨j, hj⟩ := vgj l (pre ++ [(vj7 c, (vj7 (c + 1), ((c + 2).tmod 3 == 0)))]) (c + 3) q (by omega) (by omega) (by rw [List.length_append, List.length_singleton]; omega) (by omega)
    refine ⟨j, fun k => ?_⟩
    have hlt : (pre.length : Int) < ((pre ++ y :: l).length : Int) := by rw [List.length_append, List.length_cons]; omega
    have hlt2 : ∀ v : tWrite.D, (pre.length : Int) < ((pre ++ v :: l).length : Int) := fun v => by rw [List.length_append, List.length_cons]; omega
    have w1 : IntKind.wrap .i64 (c + 1) = c + 1 := vd8 (by omega) (by omega)
    have w2 : IntKind.wrap .i64 (c + 1 + 1) = c + 2 := by rw [vd8 (by omega) (by omega)]; omega
    have w4 : IntKind.wrap .i64 (c + 2 + 1) = c + 3 := by rw [vd8 (by omega) (by omega)]; omega
    have w3 : IntKind.wrap .i64 ((pre.length : Int) + 1) = ((pre.length + 1 : Nat) : Int) := vg7 (by omega)
    have hp : (0 : Int) ≤ (pre.length : Int) := Int.natCast_nonneg _
    have hj' := hj k
    rw [List.length_append, List.length_singleton, List.append_assoc, List.singleton_append, List.append_assoc, List.singleton_append] at hj'
    simp only [vai, vh1, hlt, decide_true, cond_true, vco (show c ≤ 10000000 by omega), w1, vco (show c + 1 ≤ 10000000 by omega), Int.toNat_natCast, vvj, vs0, hlt2, hp, and_self, if_true, w2, w3, w4, Sum.elim_inl]
    rw [hj']
    simp only [vvp, List.length_cons]
    congr 2
    push_cast
    omega
theorem v0z {l : List tWrite.D} (hl : l.length ≤ 1048576) {c : Int} (h0 : 0 ≤ c) (hc : c ≤ 5000000) (k) : vms c l k = k (c + 3 * l.length, vvp c l) := by
  rw [vv4]
  unfold vts
  obtain ⟨j, hj⟩ := vgj l [] c Fuel h0 (by omega) (by simpa using hl) (by have := vfk; omega)
  simp only [List.length_nil, List.nil_append] at hj
  rw [show ((0 : Int)) = ((0 : Nat) : Int) from rfl, hj]
end
end Go.VE
/- Plain laws: versions, bases. -/
namespace Go.VE
noncomputable section
set_option linter.unusedVariables false
set_option linter.unusedSimpArgs false
set_option maxRecDepth 100000
def cmpS (x y : ByteArray) : Int := bif vax x y then -1 else bif !(vax x y || vci x y) then 1 else 0
def cmpI (x y : Int) : Int := bif decide (x < y) then -1 else bif decide (x > y) then 1 else 0
def cmpV (x y : tVersion.D) : Int := bif cmpS x.1 y.1 != 0 then cmpS x.1 y.1 else cmpI x.2.2.2 y.2.2.2
theorem v0y (x y) (k) : vpq x y k = k (cmpS x y) := by
  rw [vv8]
  unfold vt5 cmpS
  rw [vvt]
  unfold vt2
  simp only [vhp, Bool.not_true, cond_false]
  cases vax x y <;> cases vci x y <;> rfl
theorem v08 (x y) (k) : vqq x y k = k (cmpI x y) := by
  rw [vxr]
  unfold vtz cmpI
  rw [vxu]
  unfold vsx
  simp only [bne_self_eq_false, cond_false]
  cases decide (x < y) <;> cases decide (x > y) <;> rfl
theorem v0u (x y : tVersion.D) (k) : vpz x y k = k (cmpV x y) := by
  rw [vvv]
  unfold vto cmpV
  simp only [v0y, v08]
  cases cmpS x.1 y.1 != 0 <;> rfl
end
end Go.VE
/- Plain laws: what is marked in versions, transactions, bases and engines is held. -/
namespace Go.VE
noncomputable section
set_option linter.unusedVariables false
set_option linter.unusedSimpArgs false
set_option maxRecDepth 100000
def vj8 : Int → List tVersion.D → List tVersion.D
  | _, [] => []
  | c, y :: l => (vj7 c, (vj7 (c + 1), ((c + 2).tmod 3 == 0, c + 3))) :: vj8 (c + 4) l
theorem vj1 : ∀ (c : Int) (l : List tVersion.D), (vj8 c l).length = l.length
  | _, [] => rfl
  | c, y :: l => by simp [vj8, vj1 (c + 4) l]
theorem vdb : ∀ (l pre : List tVersion.D) (c : Int) (q : Nat), 0 ≤ c → c + 4 * l.length ≤ 9000000 → pre.length + l.length ≤ 1048576 → l.length < q →
    ∃ j : Int, ∀ k, vai vg5 q (c, (pre.length : Int), pre ++ l) k = k (c + 4 * l.length, j, pre ++ vj8 c l)
  | [], pre, c, q, h0, hc, hl, hq => by
    obtain ⟨q, rfl⟩ : ∃ r, q = r + 1 := ⟨q - 1, by omega⟩
    refine ⟨pre.length, fun k => ?_⟩
    simp only [vai, vg5, List.append_nil, Int.lt_irrefl, decide_false, cond_false, Sum.elim_inr, List.length_nil, vj8]
    simp
  | y :: l, pre, c, q, h0, hc, hl, hq => by
    obtain ⟨q, rfl⟩ : ∃ r, q = r + 1 := ⟨q - 1, by omega⟩
    simp only [List.length_cons] at hc hl hq
    obtain ⟨j, hj⟩ := vdb l (pre ++ [(vj7 c, (vj7 (c + 1), ((c + 2).tmod 3 == 0, c + 3)))]) (c + 4) q (by omega) (by omega) (by rw [List.length_append, List.length_singleton]; omega) (by omega)
    refine ⟨j, fun k => ?_⟩
    have hlt : ∀ v : tVersion.D, (pre.length : Int) < ((pre ++ v :: l).length : Int) := fun v => by rw [List.length_append, List.length_cons]; omega
    have w1 : IntKind.wrap .i64 (c + 1) = c + 1 := vd8 (by omega) (by omega)
    have w2 : IntKind.wrap .i64 (c + 1 + 1) = c + 2 := by rw [vd8 (by omega) (by omega)]; omega
    have w3 : IntKind.wrap .i64 (c + 2 + 1) = c + 3 := by rw [vd8 (by omega) (by omega)]; omega
    have w4 : IntKind.wrap .i64 (c + 3 + 1) = c + 4 := by rw [vd8 (by omega) (by omega)]; omega
    have w5 : IntKind.wrap .i64 ((pre.length : Int) + 1) = ((pre.length + 1 : Nat) : Int) := vg7 (by omega)
    have hp : (0 : Int) ≤ (pre.length : Int) := Int.natCast_nonneg _
    have hj' := hj k
    rw [List.length_append, List.length_singleton, List.append_assoc, List.singleton_append, List.append_assoc, List.singleton_append] at hj'
    simp only [vai, vg5, hlt, decide_true, cond_true, vco (show c ≤ 10000000 by omega), w1, vco (show c + 1 ≤ 10000000 by omega), Int.toNat_natCast, vvj, vs0, hp, and_self, if_true, w2, w3, w4, w5, Sum.elim_inl]
    refine Eq.trans (b := vai vg5 q (c + 4, ((pre.length + 1 : Nat) : Int), pre ++ (vj7 c, (vj7 (c + 1), ((c + 2).tmod 3 == 0, c + 3))) :: l) k) rfl ?_
    rw [hj']
    simp only [vj8, List.length_cons]
    congr 2
    push_cast
    omega
theorem vd9 {l : List tVersion.D} (hl : l.length ≤ 1048576) {c : Int} (h0 : 0 ≤ c) (hc : c + 4 * l.length ≤ 9000000) (k) : vj6 c l k = k (c + 4 * l.length, vj8 c l) := by
  rw [vv6]
  unfold vtc
  obtain ⟨j, hj⟩ := vdb l [] c Fuel h0 hc (by simpa using hl) (by have := vfk; omega)
  simp only [List.length_nil, List.nil_append] at hj
  rw [show ((0 : Int)) = ((0 : Nat) : Int) from rfl, hj]
theorem veq {u0 u2} : ∀ (l : List tVersion.D) (c : Int) (i : Nat), 0 ≤ c → c + 4 * l.length ≤ 9000000 → ∃ j : Int, ∀ k, vfp u0 u2 (vj8 c l) c i k = k (.inr (c + 4 * l.length, j))
  | [], c, i, _, _ => ⟨_, fun k => by simp only [vj8, vfp, List.length_nil]; simp; rfl⟩
  | y :: l, c, i, h0, hc => by
    simp only [List.length_cons] at hc
    obtain ⟨j, hj⟩ := veq (u0 := u0) (u2 := u2) l (c + 4) (i + 1) (by omega) (by omega)
    have w1 : IntKind.wrap .i64 (c + 1) = c + 1 := vd8 (by omega) (by omega)
    have w2 : IntKind.wrap .i64 (c + 1 + 1) = c + 2 := by rw [vd8 (by omega) (by omega)]; omega
    have w3 : IntKind.wrap .i64 (c + 2 + 1) = c + 3 := by rw [vd8 (by omega) (by omega)]; omega
    have w4 : IntKind.wrap .i64 (c + 3 + 1) = c + 4 := by rw [vd8 (by omega) (by omega)]; omega
    refine ⟨j, fun k => ?_⟩
    simp only [vj8, vfp, vco (show c ≤ 10000000 by omega), w1, vco (show c + 1 ≤ 10000000 by omega), vhp, Bool.not_true, cond_false, w2, w3, w4, beq_self_eq_true, bne_self_eq_false, hj, List.length_cons]
    congr 3
    push_cast
    omega
theorem vlu {l : List tVersion.D} (hl : l.length ≤ 1048576) {c : Int} (h0 : 0 ≤ c) (hc : c + 4 * l.length ≤ 9000000) (k) : viq (vj8 c l) c k = k (c + 4 * (l.length : Int)) := by
  rw [v1m (by rw [vj1]; omega)]
  unfold vxq
  obtain ⟨j, hj⟩ := veq (u0 := vj8 c l) (u2 := 0) l c 0 h0 hc
  rw [hj]; rfl
end
end Go.VE
/- Plain laws: versions that are put into others. -/
namespace Go.VE
noncomputable section
set_option linter.unusedVariables false
set_option linter.unusedSimpArgs false
set_option maxRecDepth 100000
/-- Not behind v in the order of keys and numbers. -/
def leV (v y : tVersion.D) : Bool := vax y.1 v.1 || (vci y.1 v.1 && decide (y.2.2.2 ≤ v.2.2.2))
def insV (l : List tVersion.D) (v : tVersion.D) : List tVersion.D := l.takeWhile (leV v) ++ v :: l.dropWhile (leV v)
def vc5 (cs : Int) (x : tWrite.D) : tVersion.D := (x.1, (x.2.1, (x.2.2, cs)))
def vcv (l : List tVersion.D) (w : List tWrite.D) (cs : Int) : List tVersion.D := w.foldl (fun out x => insV out (vc5 cs x)) l
theorem vim (l : List tVersion.D) (v : tVersion.D) : (insV l v).length = l.length + 1 := by
  unfold insV
  have := congrArg List.length (List.takeWhile_append_dropWhile (p := leV v) (l := l))
  rw [List.length_append] at this
  rw [List.length_append, List.length_cons]
  omega
theorem vge : ∀ (w : List tWrite.D) (l : List tVersion.D) (cs : Int), (vcv l w cs).length = l.length + w.length
  | [], l, cs => rfl
  | x :: w, l, cs => by
    show (vcv (insV l (vc5 cs x)) w cs).length = _
    rw [vge w, vim, List.length_cons]
    omega
theorem vwm {A : List tWrite.D} {B C : Int} {L : List tVersion.D} {v1 v2 : ByteArray} {v3 : Bool} {v4 : Int} (hL : L.length ≤ 3000000) : ∀ (l : List tVersion.D) (i q : Nat) (s : List tVersion.D), L.drop i = l → l.length < q → s.length + l.length ≤ 3000000 → ∀ K,
    vai vh4 q (A, B, C, (i : Int), L, v1, v2, v3, v4, s) K = K (A, B, C, ((i + (l.takeWhile (leV (v1, (v2, (v3, v4))))).length : Nat) : Int), L, v1, v2, v3, v4, s ++ l.takeWhile (leV (v1, (v2, (v3, v4)))))
  | l, i, 0, s, _, h, _ => by omega
  | [], i, q + 1, s, hd, _, _ => fun K => by
    have hge := vc7 hd
    simp only [vai, vh4, hge, decide_false, cond_false, Sum.elim_inr, List.takeWhile_nil, List.length_nil, Nat.add_zero, List.append_nil]
  | y :: l, i, q + 1, s, hd, hq, hs => fun K => by
    have hlt := vh0 hd
    have hy : L.getD i (Ty.zero tVersion) = y := (vcn hd).2 _
    have hw1 : IntKind.wrap .i64 ((i : Int) + 1) = ((i + 1 : Nat) : Int) := vg7 (by omega)
    simp only [List.length_cons] at hs
    have hm : s.length + [y].length ≤ VE.maxLen := by show _ ≤ 4294967296; simp; omega
    have ih := vwm (A := A) (B := B) (C := C) (v1 := v1) (v2 := v2) (v3 := v3) (v4 := v4) hL l (i + 1) q (s ++ [y]) (ve7 hd) (by simpa using hq) (by rw [List.length_append, List.length_singleton]; omega) K
    have e1 : leV (v1, (v2, (v3, v4))) y = (vax y.1 v1 || (vci y.1 v1 && decide (y.2.2.2 ≤ v4))) := rfl
    simp only [vai, vh4, vbx, show (i : Int) < (L.length : Int) by omega, show (0 : Int) ≤ (i : Int) by omega, and_self, if_true, decide_true, cond_true, Int.toNat_natCast, hy, hw1, List.takeWhile_cons, e1, if_pos hm]
    have key : K (A, B, C, ((i + 1 + (l.takeWhile (leV (v1, (v2, (v3, v4))))).length : Nat) : Int), L, v1, v2, v3, v4, s ++ [y] ++ l.takeWhile (leV (v1, (v2, (v3, v4))))) =
        K (A, B, C, ((i + (y :: l.takeWhile (leV (v1, (v2, (v3, v4))))).length : Nat) : Int), L, v1, v2, v3, v4, s ++ y :: l.takeWhile (leV (v1, (v2, (v3, v4))))) := by
      rw [List.append_assoc, List.singleton_append, List.length_cons, show i + 1 + (l.takeWhile (leV (v1, (v2, (v3, v4))))).length = i + ((l.takeWhile (leV (v1, (v2, (v3, v4))))).length + 1) by omega]
    cases vax y.1 v1
    · cases vci y.1 v1
      · simp only [cond_false, Sum.elim_inr, Bool.false_or, Bool.false_and, Bool.false_eq_true, if_false, List.length_nil, Nat.add_zero, List.append_nil]
      · cases decide (y.2.2.2 ≤ v4)
        · simp only [cond_false, cond_true, Sum.elim_inr, Bool.false_or, Bool.true_and, Bool.false_eq_true, if_false, List.length_nil, Nat.add_zero, List.append_nil]
        · simp only [cond_false, cond_true, Sum.elim_inl, Bool.false_or, Bool.true_and, if_true]
          rw [ih, key]
    · simp only [cond_true, Sum.elim_inl, Bool.true_or, if_true]
      rw [ih, key]
theorem vv9 (l : List tVersion.D) (v : tVersion.D) : l.drop (l.takeWhile (leV v)).length = l.dropWhile (leV v) := by
  have := List.takeWhile_append_dropWhile (p := leV v) (l := l)
  generalize l.takeWhile (leV v) = a at *
  generalize l.dropWhile (leV v) = b at *
  rw [← this, List.drop_left]
theorem v0w (l : List tVersion.D) (v : tVersion.D) : l.take (l.takeWhile (leV v)).length = l.takeWhile (leV v) := by
  have := List.takeWhile_append_dropWhile (p := leV v) (l := l)
  generalize l.takeWhile (leV v) = a at *
  generalize l.dropWhile (leV v) = b at *
  rw [← this, List.take_left]
theorem v2h (l : List tVersion.D) (v : tVersion.D) : (l.takeWhile (leV v)).length + (l.dropWhile (leV v)).length = l.length := by
  have := congrArg List.length (List.takeWhile_append_dropWhile (p := leV v) (l := l))
  rwa [List.length_append] at this
theorem vtq {A : List tWrite.D} {cs : Int} (hA : A.length ≤ 1048576) : ∀ (l : List tWrite.D) (i q : Nat) (s : List tVersion.D), A.drop i = l → l.length < q → s.length + l.length ≤ 2097152 → ∃ j : Int, ∀ K,
    vai vib q (A, cs, (i : Int), s) K = K (A, cs, j, vcv s l cs)
  | l, i, 0, s, _, h, _ => by omega
  | [], i, q + 1, s, hd, _, _ => by
    have hge := vc7 hd
    exact ⟨(i : Int), fun K => by simp only [vai, vib, hge, decide_false, cond_false, Sum.elim_inr]; rfl⟩
  | y :: l, i, q + 1, s, hd, hq, hs => by
    have hlt := vh0 hd
    have hy : rd (Ty.zero tWrite) A (i : Int) = y := (vcn hd).1 _
    have hw1 : IntKind.wrap .i64 ((i : Int) + 1) = ((i + 1 : Nat) : Int) := vg7 (by omega)
    simp only [List.length_cons] at hs
    have hil := vim s (vc5 cs y)
    obtain ⟨j, hj⟩ := vtq (cs := cs) hA l (i + 1) q (insV s (vc5 cs y)) (ve7 hd) (by simpa using hq) (by omega)
    refine ⟨j, fun K => ?_⟩
    have hin := vwm (A := A) (B := cs) (C := (i : Int)) (v1 := y.1) (v2 := y.2.1) (v3 := y.2.2) (v4 := cs) (show s.length ≤ 3000000 by omega) s 0 Fuel [] rfl (Nat.lt_of_lt_of_le (by omega) vfk) (by simp; omega)
    have hz : ((0 : Nat) : Int) = 0 := rfl
    rw [hz] at hin
    have htw := v2h s (vc5 cs y)
    simp only [vai, vib, show (i : Int) < (A.length : Int) by omega, show (0 : Int) ≤ (i : Int) by omega, and_self, if_true, decide_true, cond_true, hy, hw1, hin, List.nil_append, Nat.zero_add]
    change (if (s.takeWhile (leV (vc5 cs y))).length + [vc5 cs y].length ≤ VE.maxLen then if 0 ≤ (((s.takeWhile (leV (vc5 cs y))).length : Nat) : Int) ∧ (((s.takeWhile (leV (vc5 cs y))).length : Nat) : Int) ≤ (s.length : Int) then
      if (s.takeWhile (leV (vc5 cs y)) ++ [vc5 cs y]).length + (s.drop (((s.takeWhile (leV (vc5 cs y))).length : Nat) : Int).toNat).length ≤ VE.maxLen then _ else none else none else none) = _
    rw [if_pos (by show _ ≤ 4294967296; simp only [List.length_singleton]; omega), if_pos ⟨by omega, by omega⟩, if_pos (by show _ ≤ 4294967296; simp only [List.length_append, List.length_singleton, List.length_drop]; omega), Int.toNat_natCast, vv9, List.append_assoc, List.singleton_append]
    exact hj K
theorem v00 {l : List tVersion.D} {w : List tWrite.D} (hl : l.length ≤ 1048576) (hw : w.length ≤ 1048576) (cs : Int) (k) : vnx l w cs k = k (vcv l w cs) := by
  rw [vxa]
  unfold vs9
  rw [if_pos (by show _ ≤ 4294967296; simp; omega)]
  obtain ⟨j, hj⟩ := vtq (cs := cs) hw w 0 Fuel l rfl (Nat.lt_of_lt_of_le (by omega) vfk) (by omega)
  have hz : ((0 : Nat) : Int) = 0 := rfl
  rw [hz] at hj
  rw [List.nil_append, hj]
theorem vyk (y v : tVersion.D) : decide (cmpV y v > 0) = !leV v y := by
  unfold cmpV leV cmpS cmpI
  cases h1 : vax y.1 v.1
  · cases h2 : vci y.1 v.1
    · simp
    · by_cases h3 : y.2.2.2 < v.2.2.2
      · simp [h3]; exact Int.le_of_lt h3
      · by_cases h4 : y.2.2.2 > v.2.2.2
        · simp [h3, h4]
        · simp [h3, h4]; exact Int.not_lt.1 h4
  · simp
theorem vnm {u0 u1} {v1 v2 : ByteArray} {v3 : Bool} {v4 : Int} : ∀ (l : List tVersion.D) (i : Nat), ∃ j : Int, ∀ k,
    vgm u0 u1 l v1 v2 v3 v4 i k = k (bif l.all (leV (v1, (v2, (v3, v4)))) then .inr (j, v1, v2, v3, v4) else .inl (((i + (l.takeWhile (leV (v1, (v2, (v3, v4))))).length : Nat) : Int), j, v1, v2, v3, v4))
  | [], i => ⟨(i : Int), fun k => rfl⟩
  | y :: l, i => by
    obtain ⟨j, hj⟩ := vnm (u0 := u0) (u1 := u1) (v1 := v1) (v2 := v2) (v3 := v3) (v4 := v4) l (i + 1)
    simp only [vgm, vv1, vt6, v0u, vyk, List.all_cons, List.takeWhile_cons]
    cases leV (v1, (v2, (v3, v4))) y
    · exact ⟨(i : Int), fun k => by simp⟩
    · refine ⟨j, fun k => ?_⟩
      simp only [Bool.not_true, cond_false, Bool.true_and, if_true, List.length_cons, hj]
      rw [show i + 1 + (l.takeWhile (leV (v1, (v2, (v3, v4))))).length = i + ((l.takeWhile (leV (v1, (v2, (v3, v4))))).length + 1) by omega]
theorem v0f {α : Type} {p : α → Bool} : ∀ {l : List α}, l.all p = true → l.takeWhile p = l
  | [], _ => rfl
  | y :: l, h => by
    simp only [List.all_cons, Bool.and_eq_true] at h
    rw [List.takeWhile_cons, if_pos h.1, v0f h.2]
theorem vnh {u0 : Int} {u1 : List tWrite.D} : ∀ (l : List tWrite.D) (s : List tVersion.D) (i : Nat), s.length + l.length ≤ 2097152 → ∃ j : Int, ∀ k,
    vfq u0 u1 l s i k = k (j, vcv s l u0)
  | [], s, i, _ => ⟨(i : Int), fun k => rfl⟩
  | y :: l, s, i, h => by
    simp only [List.length_cons] at h
    have hil := vim s (vc5 u0 y)
    obtain ⟨j, hj⟩ := vnh (u0 := u0) (u1 := u1) l (insV s (vc5 u0 y)) (i + 1) (by omega)
    refine ⟨j, fun k => ?_⟩
    obtain ⟨j2, hj2⟩ := vnm (u0 := s) (u1 := 0) (v1 := y.1) (v2 := y.2.1) (v3 := y.2.2) (v4 := u0) s 0
    have htw := v2h s (vc5 u0 y)
    have hins : ∀ n : Nat, n = (s.takeWhile (leV (vc5 u0 y))).length → insL s (n : Int) [vc5 u0 y] = insV s (vc5 u0 y) := by
      intro n hn
      unfold insL insV
      rw [Int.toNat_natCast, hn, v0w, vv9, List.append_assoc, List.singleton_append]
    have hk : ∀ (n : Nat) (K : List tVersion.D × List tVersion.D → Option Res), n = (s.takeWhile (leV (vc5 u0 y))).length → vj2 (n : Int) s [vc5 u0 y] K = K ([vc5 u0 y], insV s (vc5 u0 y)) := by
      intro n K hn
      rw [vw3]
      unfold vqx
      rw [if_pos ⟨by omega, by omega, by simp, by simp; omega⟩, hins n hn]
    simp only [vfq]
    rw [v2f (by omega)]
    unfold vwy
    rw [hj2]
    change (bif s.all (leV (vc5 u0 y)) then (Sum.inr (j2, y.1, y.2.1, y.2.2, u0) : (Int × Int × ByteArray × ByteArray × Bool × Int) ⊕ (Int × ByteArray × ByteArray × Bool × Int)) else .inl (((0 + (s.takeWhile (leV (vc5 u0 y))).length : Nat) : Int), j2, y.1, y.2.1, y.2.2, u0)).elim _ _ = _
    cases ha : s.all (leV (vc5 u0 y))
    · simp only [cond_false, Sum.elim_inl, Nat.zero_add, show ¬ ((((s.takeWhile (leV (vc5 u0 y))).length : Nat) : Int) < 0) by omega, decide_false]
      exact (hk _ _ rfl).trans (hj k)
    · simp only [cond_true, Sum.elim_inr, show ((-1 : Int) < 0) by decide, decide_true]
      exact (hk _ _ (by rw [v0f ha])).trans (hj k)
theorem v06 {l : List tVersion.D} {w : List tWrite.D} (hl : l.length ≤ 1048576) (hw : w.length ≤ 1048576) (cs : Int) (k) : vix l w cs k = k (vcv l w cs) := by
  rw [v14 (by omega)]
  unfold vxi
  rw [if_pos (by show _ ≤ 4294967296; omega)]
  obtain ⟨j, hj⟩ := vnh (u0 := cs) (u1 := w) w l 0 (by omega)
  rw [hj]
end
end Go.VE
/- The plain laws. -/
namespace Go.VE
set_option linter.unusedVariables false
set_option linter.unusedSimpArgs false
set_option maxRecDepth 100000
theorem vfy (x : (Ty.slice tVersion).D) (y : (Ty.slice tWrite).D) (z : Int) (hx : (Ty.slice tVersion).wf x) (hy : (Ty.slice tWrite).wf y) (hz : (Ty.int .i64).wf z) (k : Bool → Option Res) : vq2 x y z k = k true := by
  rw [v2e]
  unfold vv3
  obtain ⟨r0, q0, p0⟩ := voi hx (a := 1048576) (by omega) (by omega)
  rw [q0]
  rcases p0 with p0 | ⟨p0, e0⟩
  · simp [p0]
  have c0 : ¬ r0 < 0 := by omega
  simp only [c0, decide_false, cond_false]
  obtain ⟨r1, q1, p1⟩ := vr6 hy (a := r0) p0 (by omega)
  rw [q1]
  rcases p1 with p1 | ⟨p1, e1⟩
  · simp [p1]
  have c1 : ¬ r1 < 0 := by omega
  simp only [c1, decide_false, cond_false]
  have wx : (Ty.slice tVersion).wt x ≤ 1048576 := by omega
  have wy : (Ty.slice tWrite).wt y ≤ 1048576 := by omega
  have lx := vzw wx
  have ly := vzw wy
  have hs : x.length + y.length ≤ 1048576 := by
    have b := Ty.wt_slice tVersion x
    have c := Ty.wt_slice tWrite y
    omega
  have lp : (vcv x y z).length ≤ 1048576 := by rw [vge]; exact hs
  have n1 : decide (1 + 4 * (x.length : Int) + 3 * (y.length : Int) < 0) = false := decide_eq_false (by omega)
  have n2 : decide (1 + 4 * ((vcv x y z).length : Int) < 0) = false := decide_eq_false (by omega)
  have hW := fun k => v0z ly (c := 1 + 4 * (x.length : Int)) (by omega) (by omega) k
  simp only [vpc lx, vrr ly, v00 lx ly, v06 lx ly, vgz lx, vgz lp, vot ly, vd9 lx (show (0 : Int) ≤ 1 by decide) (show (1 : Int) + 4 * (x.length : Int) ≤ 9000000 by omega), hW, n1, vct, vd9 lp (show (0 : Int) ≤ 1 by decide) (show (1 : Int) + 4 * ((vcv x y z).length : Int) ≤ 9000000 by omega), vlu lp (show (0 : Int) ≤ 1 by decide) (show (1 : Int) + 4 * ((vcv x y z).length : Int) ≤ 9000000 by omega), n2, vyn, beq_self_eq_true, bne_self_eq_false, Bool.not_true, Bool.not_false, cond_true, cond_false]
end Go.VE
