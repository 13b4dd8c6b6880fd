/- Plain laws: marks of pairs and versions. -/
import Derived.Test.YteolgjmeigifbaaOwnScanR19
namespace Go.VE
noncomputable section
set_option linter.unusedVariables false
set_option linter.unusedSimpArgs false
set_option maxRecDepth 100000

theorem markPairS_loop : ∀ (l pre : List tRange.D) (c : Int) (q : Nat), 0 ≤ c → c + 2 * l.length ≤ 9000000 → pre.length + l.length ≤ 1048576 → l.length < q →
    ∃ j : Int, ∀ k, loopK laws_markPairS_vo_b0 q (c, (pre.length : Int), pre ++ l) k = k (c + 2 * l.length, j, pre ++ markR c l)
  | [], pre, c, q, h0, hc, hl, hq => by
    obtain ⟨q, rfl⟩ : ∃ r, q = r + 1 := ⟨q - 1, by omega⟩
    refine ⟨pre.length, fun k => ?_⟩
    simp only [loopK, laws_markPairS_vo_b0, List.append_nil, Int.lt_irrefl, decide_false, cond_false, Sum.elim_inr, List.length_nil, markR]
    simp
  | y :: l, pre, c, q, h0, hc, hl, hq => by
    obtain ⟨q, rfl⟩ : ∃ r, q = r + 1 := ⟨q - 1, by omega⟩
    simp only [List.length_cons] at hc hl hq
    obtain ⟨j, hj⟩ := markPairS_loop l (pre ++ [(markB c, markB (c + 1))]) (c + 2) q (by omega) (by omega) (by rw [List.length_append, List.length_singleton]; omega) (by omega)
    refine ⟨j, fun k => ?_⟩
    have hlt : (pre.length : Int) < ((pre ++ y :: l).length : Int) := by rw [List.length_append, List.length_cons]; omega
    have hlt2 : ∀ v : tRange.D, (pre.length : Int) < ((pre ++ v :: l).length : Int) := fun v => by rw [List.length_append, List.length_cons]; omega
    have w1 : IntKind.wrap .i64 (c + 1) = c + 1 := wrap64 (by omega) (by omega)
    have w2 : IntKind.wrap .i64 (c + 1 + 1) = c + 2 := by rw [wrap64 (by omega) (by omega)]; omega
    have w3 : IntKind.wrap .i64 ((pre.length : Int) + 1) = ((pre.length + 1 : Nat) : Int) := wrap_succ (by omega)
    have hp : (0 : Int) ≤ (pre.length : Int) := Int.natCast_nonneg _
    have hj' := hj k
    rw [List.length_append, List.length_singleton, List.append_assoc, List.singleton_append, List.append_assoc, List.singleton_append] at hj'
    simp only [loopK, laws_markPairS_vo_b0, hlt, decide_true, cond_true, markText_is (show c ≤ 10000000 by omega), w1, markText_is (show c + 1 ≤ 10000000 by omega), Int.toNat_natCast, set_mid, getD_mid, hlt2, hp, and_self, if_true, w2, w3, Sum.elim_inl]
    rw [hj']
    simp only [markR, List.length_cons]
    congr 2
    push_cast
    omega


theorem laws_markPairS_vo_is {l : List tRange.D} (hl : l.length ≤ 1048576) {c : Int} (h0 : 0 ≤ c) (hc : c ≤ 5000000) (k) : laws_markPairS_vo_k c l k = k (c + 2 * l.length, markR c l) := by
  rw [laws_markPairS_vo_e]
  unfold laws_markPairS_vo_d
  obtain ⟨j, hj⟩ := markPairS_loop l [] c Fuel h0 (by omega) (by simpa using hl) (by have := fuel_big; omega)
  simp only [List.length_nil, List.nil_append] at hj
  rw [show ((0 : Int)) = ((0 : Nat) : Int) from rfl, hj]

theorem heldPairS_loop {u0 u2} : ∀ (l : List tRange.D) (c : Int) (i : Nat), 0 ≤ c → c + 2 * l.length ≤ 9000000 → ∃ j : Int, ∀ k, laws_heldPairS_w0 u0 u2 (markR c l) c i k = k (.inr (c + 2 * l.length, j))
  | [], c, i, _, _ => ⟨_, fun k => by simp only [markR, laws_heldPairS_w0, List.length_nil]; simp; rfl⟩
  | y :: l, c, i, h0, hc => by
    simp only [List.length_cons] at hc
    obtain ⟨j, hj⟩ := heldPairS_loop (u0 := u0) (u2 := u2) l (c + 2) (i + 1) (by omega) (by omega)
    have w1 : IntKind.wrap .i64 (c + 1) = c + 1 := wrap64 (by omega) (by omega)
    have w2 : IntKind.wrap .i64 (c + 1 + 1) = c + 2 := by rw [wrap64 (by omega) (by omega)]; omega
    refine ⟨j, fun k => ?_⟩
    simp only [markR, laws_heldPairS_w0, markText_is (show c ≤ 10000000 by omega), w1, markText_is (show c + 1 ≤ 10000000 by omega), strEq_self, Bool.not_true, cond_false, w2, hj, List.length_cons]
    congr 3
    push_cast
    omega


theorem heldPairS_is {l : List tRange.D} (hl : l.length ≤ 1048576) (k) : laws_heldPairS_k (markR 1 l) 1 k = k (1 + 2 * (l.length : Int)) := by
  rw [laws_heldPairS_r (by rw [markR_length]; omega)]
  unfold laws_heldPairS_t
  obtain ⟨j, hj⟩ := heldPairS_loop (u0 := markR 1 l) (u2 := 0) l 1 0 (by decide) (by omega)
  rw [hj]; rfl

theorem markVersionS_loop : ∀ (m i : Nat) (S : List tVersion.D) (c : Int) (q : Nat), i + m = S.length → m < q → 0 ≤ c → c + 4 * (m : Int) ≤ 9000000 → S.length ≤ 1048576 → ∃ (j : Int) (S' : List tVersion.D), ∀ k, loopK laws_markVersionS_vo_b0 q (c, (i : Int), S) k = k (c + 4 * (m : Int), j, S') := by
  intro m
  induction m with
  | zero =>
    intro i S c q hi hq h0 hc hS
    obtain ⟨q, rfl⟩ : ∃ q', q = q' + 1 := ⟨q - 1, by omega⟩
    refine ⟨(i : Int), S, fun k => ?_⟩
    simp only [loopK, laws_markVersionS_vo_b0, show ¬ (i : Int) < (S.length : Int) by omega, decide_false, cond_false, Sum.elim_inr]
    simp
  | succ m ih =>
    intro i S c q hi hq h0 hc hS
    obtain ⟨q, rfl⟩ : ∃ q', q = q' + 1 := ⟨q - 1, by omega⟩
    have w1 : IntKind.wrap .i64 (c + 1) = c + 1 := wrap64 (by omega) (by omega)
    have w2 : IntKind.wrap .i64 (c + 1 + 1) = c + 2 := by rw [wrap64 (by omega) (by omega)]; omega
    have w3 : IntKind.wrap .i64 (c + 2 + 1) = c + 3 := by rw [wrap64 (by omega) (by omega)]; omega
    have w4 : IntKind.wrap .i64 (c + 3 + 1) = c + 4 := by rw [wrap64 (by omega) (by omega)]; omega
    have w5 : IntKind.wrap .i64 ((i : Int) + 1) = ((i + 1 : Nat) : Int) := wrap_succ (by omega)
    have c1 : (i : Int) < (S.length : Int) := by omega
    have c2 : (0 : Int) ≤ (i : Int) := by omega
    have hih := fun S2 (h2 : List.length (α := tVersion.D) S2 = S.length) => ih (i + 1) S2 (c + 4) q (by omega) (by omega) (by omega) (by push_cast at hc; omega) (by omega)
    have hx : ∃ S2 : List tVersion.D, S2.length = S.length ∧ ∀ k, laws_markVersionS_vo_b0 (c, (i : Int), S) k = k (.inl (c + 4, ((i + 1 : Nat) : Int), S2)) := by
      apply Exists.intro
      apply And.intro
      rotate_left
      · intro k
        simp only [laws_markVersionS_vo_b0, c1, c2, decide_true, cond_true, and_self, if_true, List.length_set, markText_is (show c ≤ 10000000 by omega), w1, markText_is (show c + 1 ≤ 10000000 by omega), w2, w3, w4, w5]
        rfl
      · simp only [List.length_set]
    obtain ⟨S2, hl2, hb⟩ := hx
    obtain ⟨j, S', hj⟩ := hih S2 hl2
    refine ⟨j, S', fun k => ?_⟩
    simp only [loopK, hb, Sum.elim_inl]
    rw [hj]
    congr 2
    push_cast
    omega

end
end Go.VE
