/- Plain laws of the marks: what is marked in place is held. -/
import Derived.Test.YtpmahbmokfaflaaGetKeyR5
namespace Go.VE
noncomputable section
set_option linter.unusedVariables false
set_option linter.unusedSimpArgs false
set_option maxRecDepth 100000

theorem bytesOf_one (n : Int) : (bytesOf [n]).size = 1 := rfl

theorem markText_loop : ∀ (m : Nat) (n : Int) (s : ByteArray) (q : Nat), n ≤ m → m < q → s.size + m ≤ 100000000 → Gives (loopK n40n_b0 q (n, s)) (fun z => z.2.size ≤ s.size + m) := by
  intro m
  induction m with
  | zero =>
    intro n s q hn hq hs
    obtain ⟨q, rfl⟩ : ∃ r, q = r + 1 := ⟨q - 1, by omega⟩
    apply gives_loop
    unfold n40n_b0
    exact gives_bif (fun c => by have c := of_decide_eq_true c; dsimp only at c; omega) (fun _ => gives_ret (go_inr (by dsimp only; omega)))
  | succ m ih =>
    intro n s q hn hq hs
    obtain ⟨q, rfl⟩ : ∃ r, q = r + 1 := ⟨q - 1, by omega⟩
    apply gives_loop
    unfold n40n_b0
    refine gives_bif (fun c => gives_ite ?_ (gives_ret (go_inl ?_))) (fun _ => gives_ret (go_inr (by dsimp only; omega)))
    · rw [bytesOf_one]; dsimp only; omega
    · have c := of_decide_eq_true c
      dsimp only at c
      have e : n.tdiv 10 = n / 10 := Int.tdiv_eq_ediv_of_nonneg (by omega)
      dsimp only
      rw [e, wrap64 (by omega) (by omega)]
      refine (ih (n / 10) _ q (by omega) (by omega) (by rw [ByteArray.size_append, bytesOf_one]; omega)).mono (fun z hz => ?_)
      rw [ByteArray.size_append, bytesOf_one] at hz
      omega

theorem markText_G {n : Int} (h : n ≤ 10000000) : Gives (n40n_k n) (fun _ => True) := by
  rw [n40n_e]
  unfold n40n_d
  refine gives_bif (fun _ => gives_ret trivial) (fun _ => (markText_loop 10000000 n _ Fuel (by omega) (by have := fuel_big; omega) (by decide)).bind (fun z hz => gives_ite ?_ (gives_ret trivial)))
  have : (⟨#[109]⟩ : ByteArray).size = 1 := rfl
  have : (⟨#[]⟩ : ByteArray).size = 0 := rfl
  omega

open Classical in
def markB (n : Int) : ByteArray := if h : ∃ v, ∀ k, n40n_k n k = k v then Classical.choose h else ⟨#[]⟩
theorem markText_is {n : Int} (h : n ≤ 10000000) (k) : n40n_k n k = k (markB n) := by
  obtain ⟨v, _, hv⟩ := markText_G h
  have h1 : ∃ v, ∀ k, n40n_k n k = k v := ⟨v, hv⟩
  unfold markB
  rw [dif_pos h1]
  exact Classical.choose_spec h1 k

theorem set_mid {α : Type} (pre : List α) (y v : α) (l : List α) : (pre ++ y :: l).set pre.length v = pre ++ v :: l := by simp
theorem getD_mid {α : Type} (pre : List α) (y d : α) (l : List α) : (pre ++ y :: l).getD pre.length d = y := by simp [List.getD]

def markR : Int → List tRange.D → List tRange.D
  | _, [] => []
  | c, y :: l => (markB c, markB (c + 1)) :: markR (c + 2) l

theorem markRangeS_loop : ∀ (l pre : List tRange.D) (c : Int) (q : Nat), 0 ≤ c → c + 2 * l.length ≤ 9000000 → pre.length + l.length ≤ 1048576 → l.length < q →
    ∃ j : Int, ∀ k, loopK n39n_b0 q (c, (pre.length : Int), pre ++ l) k = k (c + 2 * l.length, j, pre ++ markR c l)
  | [], pre, c, q, h0, hc, hl, hq => by
    obtain ⟨q, rfl⟩ : ∃ r, q = r + 1 := ⟨q - 1, by omega⟩
    refine ⟨pre.length, fun k => ?_⟩
    simp only [loopK, n39n_b0, List.append_nil, Int.lt_irrefl, decide_false, cond_false, Sum.elim_inr, List.length_nil, markR]
    simp
  | y :: l, pre, c, q, h0, hc, hl, hq => by
    obtain ⟨q, rfl⟩ : ∃ r, q = r + 1 := ⟨q - 1, by omega⟩
    simp only [List.length_cons] at hc hl hq
    obtain ⟨j, hj⟩ := markRangeS_loop l (pre ++ [(markB c, markB (c + 1))]) (c + 2) q (by omega) (by omega) (by rw [List.length_append, List.length_singleton]; omega) (by omega)
    refine ⟨j, fun k => ?_⟩
    have hlt : (pre.length : Int) < ((pre ++ y :: l).length : Int) := by rw [List.length_append, List.length_cons]; omega
    have hlt2 : ∀ v : tRange.D, (pre.length : Int) < ((pre ++ v :: l).length : Int) := fun v => by rw [List.length_append, List.length_cons]; omega
    have w1 : IntKind.wrap .i64 (c + 1) = c + 1 := wrap64 (by omega) (by omega)
    have w2 : IntKind.wrap .i64 (c + 1 + 1) = c + 2 := by rw [wrap64 (by omega) (by omega)]; omega
    have w3 : IntKind.wrap .i64 ((pre.length : Int) + 1) = ((pre.length + 1 : Nat) : Int) := wrap_succ (by omega)
    have hp : (0 : Int) ≤ (pre.length : Int) := Int.natCast_nonneg _
    have hj' := hj k
    rw [List.length_append, List.length_singleton, List.append_assoc, List.singleton_append, List.append_assoc, List.singleton_append] at hj'
    simp only [loopK, n39n_b0, hlt, decide_true, cond_true, markText_is (show c ≤ 10000000 by omega), w1, markText_is (show c + 1 ≤ 10000000 by omega), Int.toNat_natCast, set_mid, getD_mid, hlt2, hp, and_self, if_true, w2, w3, Sum.elim_inl]
    rw [hj']
    simp only [markR, List.length_cons]
    congr 2
    push_cast
    omega


def markW : Int → List tWrite.D → List tWrite.D
  | _, [] => []
  | c, y :: l => (markB c, (markB (c + 1), ((c + 2).tmod 3 == 0))) :: markW (c + 3) l

theorem markWriteS_loop : ∀ (l pre : List tWrite.D) (c : Int) (q : Nat), 0 ≤ c → c + 3 * l.length ≤ 9000000 → pre.length + l.length ≤ 1048576 → l.length < q →
    ∃ j : Int, ∀ k, loopK n43n_b0 q (c, (pre.length : Int), pre ++ l) k = k (c + 3 * l.length, j, pre ++ markW c l)
  | [], pre, c, q, h0, hc, hl, hq => by
    obtain ⟨q, rfl⟩ : ∃ r, q = r + 1 := ⟨q - 1, by omega⟩
    refine ⟨pre.length, fun k => ?_⟩
    simp only [loopK, n43n_b0, List.append_nil, Int.lt_irrefl, decide_false, cond_false, Sum.elim_inr, List.length_nil, markW]
    simp
  | y :: l, pre, c, q, h0, hc, hl, hq => by
    obtain ⟨q, rfl⟩ : ∃ r, q = r + 1 := ⟨q - 1, by omega⟩
    simp only [List.length_cons] at hc hl hq
    obtain ⟨j, hj⟩ := markWriteS_loop l (pre ++ [(markB c, (markB (c + 1), ((c + 2).tmod 3 == 0)))]) (c + 3) q (by omega) (by omega) (by rw [List.length_append, List.length_singleton]; omega) (by omega)
    refine ⟨j, fun k => ?_⟩
    have hlt : (pre.length : Int) < ((pre ++ y :: l).length : Int) := by rw [List.length_append, List.length_cons]; omega
    have hlt2 : ∀ v : tWrite.D, (pre.length : Int) < ((pre ++ v :: l).length : Int) := fun v => by rw [List.length_append, List.length_cons]; omega
    have w1 : IntKind.wrap .i64 (c + 1) = c + 1 := wrap64 (by omega) (by omega)
    have w2 : IntKind.wrap .i64 (c + 1 + 1) = c + 2 := by rw [wrap64 (by omega) (by omega)]; omega
    have w4 : IntKind.wrap .i64 (c + 2 + 1) = c + 3 := by rw [wrap64 (by omega) (by omega)]; omega
    have w3 : IntKind.wrap .i64 ((pre.length : Int) + 1) = ((pre.length + 1 : Nat) : Int) := wrap_succ (by omega)
    have hp : (0 : Int) ≤ (pre.length : Int) := Int.natCast_nonneg _
    have hj' := hj k
    rw [List.length_append, List.length_singleton, List.append_assoc, List.singleton_append, List.append_assoc, List.singleton_append] at hj'
    simp only [loopK, n43n_b0, hlt, decide_true, cond_true, markText_is (show c ≤ 10000000 by omega), w1, markText_is (show c + 1 ≤ 10000000 by omega), Int.toNat_natCast, set_mid, getD_mid, hlt2, hp, and_self, if_true, w2, w3, w4, Sum.elim_inl]
    rw [hj']
    simp only [markW, List.length_cons]
    congr 2
    push_cast
    omega

theorem heldRangeS_loop {u0 u2} : ∀ (l : List tRange.D) (c : Int) (i : Nat), 0 ≤ c → c + 2 * l.length ≤ 9000000 → ∃ j : Int, ∀ k, n33n_w0 u0 u2 (markR c l) c i k = k (.inr (c + 2 * l.length, j))
  | [], c, i, _, _ => ⟨_, fun k => by simp only [markR, n33n_w0, List.length_nil]; simp; rfl⟩
  | y :: l, c, i, h0, hc => by
    simp only [List.length_cons] at hc
    obtain ⟨j, hj⟩ := heldRangeS_loop (u0 := u0) (u2 := u2) l (c + 2) (i + 1) (by omega) (by omega)
    have w1 : IntKind.wrap .i64 (c + 1) = c + 1 := wrap64 (by omega) (by omega)
    have w2 : IntKind.wrap .i64 (c + 1 + 1) = c + 2 := by rw [wrap64 (by omega) (by omega)]; omega
    refine ⟨j, fun k => ?_⟩
    simp only [markR, n33n_w0, markText_is (show c ≤ 10000000 by omega), w1, markText_is (show c + 1 ≤ 10000000 by omega), strEq_self, Bool.not_true, cond_false, w2, hj, List.length_cons]
    congr 3
    push_cast
    omega

theorem heldWriteS_loop {u0 u2} : ∀ (l : List tWrite.D) (c : Int) (i : Nat), 0 ≤ c → c + 3 * l.length ≤ 9000000 → ∃ j : Int, ∀ k, n36n_w0 u0 u2 (markW c l) c i k = k (.inr (c + 3 * l.length, j))
  | [], c, i, _, _ => ⟨_, fun k => by simp only [markW, n36n_w0, List.length_nil]; simp; rfl⟩
  | y :: l, c, i, h0, hc => by
    simp only [List.length_cons] at hc
    obtain ⟨j, hj⟩ := heldWriteS_loop (u0 := u0) (u2 := u2) l (c + 3) (i + 1) (by omega) (by omega)
    have w1 : IntKind.wrap .i64 (c + 1) = c + 1 := wrap64 (by omega) (by omega)
    have w2 : IntKind.wrap .i64 (c + 1 + 1) = c + 2 := by rw [wrap64 (by omega) (by omega)]; omega
    have w4 : IntKind.wrap .i64 (c + 2 + 1) = c + 3 := by rw [wrap64 (by omega) (by omega)]; omega
    refine ⟨j, fun k => ?_⟩
    simp only [markW, n36n_w0, markText_is (show c ≤ 10000000 by omega), w1, markText_is (show c + 1 ≤ 10000000 by omega), strEq_self, Bool.not_true, cond_false, w2, w4, hj, List.length_cons, beq_self_eq_true]
    congr 3
    push_cast
    omega


end
end Go.VE
