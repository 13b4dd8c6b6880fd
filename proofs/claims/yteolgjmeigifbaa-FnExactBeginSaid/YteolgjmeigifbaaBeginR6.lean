/- Plain laws of the marks: what is marked in place is held. -/
import Derived.Test.YteolgjmeigifbaaBeginR5
namespace Go.VE
noncomputable section
set_option linter.unusedVariables false
set_option linter.unusedSimpArgs false
set_option maxRecDepth 100000
theorem vpq (n : Int) : (vp2 [n]).size = 1 := rfl
theorem v3z : ∀ (m : Nat) (n : Int) (s : ByteArray) (q : Nat), n ≤ m → m < q → s.size + m ≤ 100000000 → Gives (vah vlv q (n, s)) (fun z => z.2.size ≤ s.size + m) := by
  intro m
  induction m with
  | zero =>
    intro n s q hn hq hs
    obtain ⟨q, rfl⟩ : ∃ r, q = r + 1 := ⟨q - 1, by omega⟩
    apply v0n
    unfold vlv
    exact vwd (fun c => by have c := of_decide_eq_true c; dsimp only at c; omega) (fun _ => vmu (ws5 (by dsimp only; omega)))
  | succ m ih =>
    intro n s q hn hq hs
    obtain ⟨q, rfl⟩ : ∃ r, q = r + 1 := ⟨q - 1, by omega⟩
    apply v0n
    unfold vlv
    refine vwd (fun c => v4z ?_ (vmu (wzb ?_))) (fun _ => vmu (ws5 (by dsimp only; omega)))
    · rw [vpq]; dsimp only; omega
    · have c := of_decide_eq_true c
      dsimp only at c
      have e : n.tdiv 10 = n / 10 := Int.tdiv_eq_ediv_of_nonneg (by omega)
      dsimp only
      rw [e, vbb (by omega) (by omega)]
      refine (ih (n / 10) _ q (by omega) (by omega) (by rw [ByteArray.size_append, vpq]; omega)).mono (fun z hz => ?_)
      rw [ByteArray.size_append, vpq] at hz
      omega
theorem we9 {n : Int} (h : n ≤ 10000000) : Gives (vck n) (fun _ => True) := by
  rw [wiy]
  unfold wcj
  refine vwd (fun _ => vmu trivial) (fun _ => (v3z 10000000 n _ Fuel (by omega) (by have := vei; omega) (by decide)).bind (fun z hz => v4z ?_ (vmu trivial)))
  have : (⟨#[109]⟩ : ByteArray).size = 1 := rfl
  have : (⟨#[]⟩ : ByteArray).size = 0 := rfl
  omega
open Classical in
def vmo (n : Int) : ByteArray := if h : ∃ v, ∀ k, vck n k = k v then Classical.choose h else ⟨#[]⟩
theorem vbs {n : Int} (h : n ≤ 10000000) (k) : vck n k = k (vmo n) := by
  obtain ⟨v, _, hv⟩ := we9 h
  have h1 : ∃ v, ∀ k, vck n k = k v := ⟨v, hv⟩
  unfold vmo
  rw [dif_pos h1]
  exact Classical.choose_spec h1 k
theorem v2i {α : Type} (pre : List α) (y v : α) (l : List α) : (pre ++ y :: l).set pre.length v = pre ++ v :: l := by simp
theorem vuh {α : Type} (pre : List α) (y d : α) (l : List α) : (pre ++ y :: l).getD pre.length d = y := by simp [List.getD]
def vs8 : Int → List tRange.D → List tRange.D
  | _, [] => []
  | c, y :: l => (vmo c, vmo (c + 1)) :: vs8 (c + 2) l
theorem vl3 : ∀ (l pre : List tRange.D) (c : Int) (q : Nat), 0 ≤ c → c + 2 * l.length ≤ 9000000 → pre.length + l.length ≤ 1048576 → l.length < q →
    ∃ j : Int, ∀ k, vah vly q (c, (pre.length : Int), pre ++ l) k = k (c + 2 * l.length, j, pre ++ vs8 c l)
  | [], pre, c, q, h0, hc, hl, hq => by
    obtain ⟨q, rfl⟩ : ∃ r, q = r + 1 := ⟨q - 1, by omega⟩
    refine ⟨pre.length, fun k => ?_⟩
    simp only [vah, vly, List.append_nil, Int.lt_irrefl, decide_false, cond_false, Sum.elim_inr, List.length_nil, vs8]
    simp
  | y :: l, pre, c, q, h0, hc, hl, hq => by
    obtain ⟨q, rfl⟩ : ∃ r, q = r + 1 := ⟨q - 1, by omega⟩
    simp only [List.length_cons] at hc hl hq
    obtain ⟨j, hj⟩ := vl3 l (pre ++ [(vmo c, vmo (c + 1))]) (c + 2) q (by omega) (by omega) (by rw [List.length_append, List.length_singleton]; omega) (by omega)
    refine ⟨j, fun k => ?_⟩
    have hlt : (pre.length : Int) < ((pre ++ y :: l).length : Int) := by rw [List.length_append, List.length_cons]; omega
    have hlt2 : ∀ v : tRange.D, (pre.length : Int) < ((pre ++ v :: l).length : Int) := fun v => by rw [List.length_append, List.length_cons]; omega
    have w1 : IntKind.wrap .i64 (c + 1) = c + 1 := vbb (by omega) (by omega)
    have w2 : IntKind.wrap .i64 (c + 1 + 1) = c + 2 := by rw [vbb (by omega) (by omega)]; omega
    have w3 : IntKind.wrap .i64 ((pre.length : Int) + 1) = ((pre.length + 1 : Nat) : Int) := vgw (by omega)
    have hp : (0 : Int) ≤ (pre.length : Int) := Int.natCast_nonneg _
    have hj' := hj k
    rw [List.length_append, List.length_singleton, List.append_assoc, List.singleton_append, List.append_assoc, List.singleton_append] at hj'
    simp only [vah, vly, hlt, decide_true, cond_true, vbs (show c ≤ 10000000 by omega), w1, vbs (show c + 1 ≤ 10000000 by omega), Int.toNat_natCast, v2i, vuh, hlt2, hp, and_self, if_true, w2, w3, Sum.elim_inl]
    rw [hj']
    simp only [vs8, List.length_cons]
    congr 2
    push_cast
    omega
def vs6 : Int → List tWrite.D → List tWrite.D
  | _, [] => []
  | c, y :: l => (vmo c, (vmo (c + 1), ((c + 2).tmod 3 == 0))) :: vs6 (c + 3) l
theorem vmf : ∀ (l pre : List tWrite.D) (c : Int) (q : Nat), 0 ≤ c → c + 3 * l.length ≤ 9000000 → pre.length + l.length ≤ 1048576 → l.length < q →
    ∃ j : Int, ∀ k, vah vmn q (c, (pre.length : Int), pre ++ l) k = k (c + 3 * l.length, j, pre ++ vs6 c l)
  | [], pre, c, q, h0, hc, hl, hq => by
    obtain ⟨q, rfl⟩ : ∃ r, q = r + 1 := ⟨q - 1, by omega⟩
    refine ⟨pre.length, fun k => ?_⟩
    simp only [vah, vmn, List.append_nil, Int.lt_irrefl, decide_false, cond_false, Sum.elim_inr, List.length_nil, vs6]
    simp
  | y :: l, pre, c, q, h0, hc, hl, hq => by
    obtain ⟨q, rfl⟩ : ∃ r, q = r + 1 := ⟨q - 1, by omega⟩
    simp only [List.length_cons] at hc hl hq
    obtain ⟨j, hj⟩ := vmf l (pre ++ [(vmo c, (vmo (c + 1), ((c + 2).tmod 3 == 0)))]) (c + 3) q (by omega) (by omega) (by rw [List.length_append, List.length_singleton]; omega) (by omega)
    refine ⟨j, fun k => ?_⟩
    have hlt : (pre.length : Int) < ((pre ++ y :: l).length : Int) := by rw [List.length_append, List.length_cons]; omega
    have hlt2 : ∀ v : tWrite.D, (pre.length : Int) < ((pre ++ v :: l).length : Int) := fun v => by rw [List.length_append, List.length_cons]; omega
    have w1 : IntKind.wrap .i64 (c + 1) = c + 1 := vbb (by omega) (by omega)
    have w2 : IntKind.wrap .i64 (c + 1 + 1) = c + 2 := by rw [vbb (by omega) (by omega)]; omega
    have w4 : IntKind.wrap .i64 (c + 2 + 1) = c + 3 := by rw [vbb (by omega) (by omega)]; omega
    have w3 : IntKind.wrap .i64 ((pre.length : Int) + 1) = ((pre.length + 1 : Nat) : Int) := vgw (by omega)
    have hp : (0 : Int) ≤ (pre.length : Int) := Int.natCast_nonneg _
    have hj' := hj k
    rw [List.length_append, List.length_singleton, List.append_assoc, List.singleton_append, List.append_assoc, List.singleton_append] at hj'
    simp only [vah, vmn, hlt, decide_true, cond_true, vbs (show c ≤ 10000000 by omega), w1, vbs (show c + 1 ≤ 10000000 by omega), Int.toNat_natCast, v2i, vuh, hlt2, hp, and_self, if_true, w2, w3, w4, Sum.elim_inl]
    rw [hj']
    simp only [vs6, List.length_cons]
    congr 2
    push_cast
    omega
theorem vlo {u0 u2} : ∀ (l : List tRange.D) (c : Int) (i : Nat), 0 ≤ c → c + 2 * l.length ≤ 9000000 → ∃ j : Int, ∀ k, vkm u0 u2 (vs8 c l) c i k = k (.inr (c + 2 * l.length, j))
  | [], c, i, _, _ => ⟨_, fun k => by simp only [vs8, vkm, List.length_nil]; simp; rfl⟩
  | y :: l, c, i, h0, hc => by
    simp only [List.length_cons] at hc
    obtain ⟨j, hj⟩ := vlo (u0 := u0) (u2 := u2) l (c + 2) (i + 1) (by omega) (by omega)
    have w1 : IntKind.wrap .i64 (c + 1) = c + 1 := vbb (by omega) (by omega)
    have w2 : IntKind.wrap .i64 (c + 1 + 1) = c + 2 := by rw [vbb (by omega) (by omega)]; omega
    refine ⟨j, fun k => ?_⟩
    simp only [vs8, vkm, vbs (show c ≤ 10000000 by omega), w1, vbs (show c + 1 ≤ 10000000 by omega), vct, Bool.not_true, cond_false, w2, hj, List.length_cons]
    congr 3
    push_cast
    omega
theorem vl6 {u0 u2} : ∀ (l : List tWrite.D) (c : Int) (i : Nat), 0 ≤ c → c + 3 * l.length ≤ 9000000 → ∃ j : Int, ∀ k, vk5 u0 u2 (vs6 c l) c i k = k (.inr (c + 3 * l.length, j))
  | [], c, i, _, _ => ⟨_, fun k => by simp only [vs6, vk5, List.length_nil]; simp; rfl⟩
  | y :: l, c, i, h0, hc => by
    simp only [List.length_cons] at hc
    obtain ⟨j, hj⟩ := vl6 (u0 := u0) (u2 := u2) l (c + 3) (i + 1) (by omega) (by omega)
    have w1 : IntKind.wrap .i64 (c + 1) = c + 1 := vbb (by omega) (by omega)
    have w2 : IntKind.wrap .i64 (c + 1 + 1) = c + 2 := by rw [vbb (by omega) (by omega)]; omega
    have w4 : IntKind.wrap .i64 (c + 2 + 1) = c + 3 := by rw [vbb (by omega) (by omega)]; omega
    refine ⟨j, fun k => ?_⟩
    simp only [vs6, vk5, vbs (show c ≤ 10000000 by omega), w1, vbs (show c + 1 ≤ 10000000 by omega), vct, Bool.not_true, cond_false, w2, w4, hj, List.length_cons, beq_self_eq_true]
    congr 3
    push_cast
    omega
end
end Go.VE
