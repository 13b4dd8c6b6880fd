/- Plain laws: a new store. -/
import Derived.Test.YtpmahbmokfaflaaInDoubtR6
namespace Go.VE
noncomputable section
set_option linter.unusedVariables false
set_option linter.unusedSimpArgs false
set_option maxRecDepth 100000

def markS : Int → List ByteArray → List ByteArray
  | _, [] => []
  | c, y :: l => markB c :: markS (c + 1) l

theorem markS_length : ∀ (c : Int) (l : List ByteArray), (markS c l).length = l.length
  | _, [] => rfl
  | c, y :: l => by simp [markS, markS_length (c + 1) l]

theorem markStringS_loop : ∀ (l pre : List ByteArray) (c : Int) (q : Nat), 0 ≤ c → c + l.length ≤ 9000000 → pre.length + l.length ≤ 1048576 → l.length < q →
    ∃ j : Int, ∀ k, loopK laws_markStringS_vo_b0 q (c, (pre.length : Int), pre ++ l) k = k (c + l.length, j, pre ++ markS c l)
  | [], pre, c, q, h0, hc, hl, hq => by
    obtain ⟨q, rfl⟩ : ∃ r, q = r + 1 := ⟨q - 1, by omega⟩
    refine ⟨pre.length, fun k => ?_⟩
    simp only [loopK, laws_markStringS_vo_b0, List.append_nil, Int.lt_irrefl, decide_false, cond_false, Sum.elim_inr, List.length_nil, markS]
    simp
  | y :: l, pre, c, q, h0, hc, hl, hq => by
    obtain ⟨q, rfl⟩ : ∃ r, q = r + 1 := ⟨q - 1, by omega⟩
    simp only [List.length_cons] at hc hl hq
    obtain ⟨j, hj⟩ := markStringS_loop l (pre ++ [markB c]) (c + 1) q (by omega) (by omega) (by rw [List.length_append, List.length_singleton]; omega) (by omega)
    refine ⟨j, fun k => ?_⟩
    have hlt : (pre.length : Int) < ((pre ++ y :: l).length : Int) := by rw [List.length_append, List.length_cons]; omega
    have w1 : IntKind.wrap .i64 (c + 1) = c + 1 := wrap64 (by omega) (by omega)
    have w3 : IntKind.wrap .i64 ((pre.length : Int) + 1) = ((pre.length + 1 : Nat) : Int) := wrap_succ (by omega)
    have hp : (0 : Int) ≤ (pre.length : Int) := Int.natCast_nonneg _
    have hj' := hj k
    rw [List.length_append, List.length_singleton, List.append_assoc, List.singleton_append, List.append_assoc, List.singleton_append] at hj'
    simp only [loopK, laws_markStringS_vo_b0, hlt, decide_true, cond_true, markText_is (show c ≤ 10000000 by omega), w1, Int.toNat_natCast, set_mid, hp, and_self, if_true, w3, Sum.elim_inl]
    rw [hj']
    simp only [markS, List.length_cons]
    congr 2
    push_cast
    omega

theorem heldStringS_loop {u0 u2} : ∀ (l : List ByteArray) (c : Int) (i : Nat), 0 ≤ c → c + l.length ≤ 9000000 → ∃ j : Int, ∀ k, laws_heldStringS_w0 u0 u2 (markS c l) c i k = k (.inr (c + l.length, j))
  | [], c, i, _, _ => ⟨_, fun k => by simp only [markS, laws_heldStringS_w0, List.length_nil]; simp; rfl⟩
  | y :: l, c, i, h0, hc => by
    simp only [List.length_cons] at hc
    obtain ⟨j, hj⟩ := heldStringS_loop (u0 := u0) (u2 := u2) l (c + 1) (i + 1) (by omega) (by omega)
    have w1 : IntKind.wrap .i64 (c + 1) = c + 1 := wrap64 (by omega) (by omega)
    refine ⟨j, fun k => ?_⟩
    simp only [markS, laws_heldStringS_w0, markText_is (show c ≤ 10000000 by omega), w1, strEq_self, Bool.not_true, cond_false, hj, List.length_cons]
    congr 3
    push_cast
    omega

theorem eqStringS_loop {u0 : List ByteArray} {u2 : Bool} : ∀ (l : List ByteArray) (i : Nat), u0.drop i = l → ∃ z, ∀ k, laws_eqStringS_w0 u0 u0 u2 l i k = k (.inr z)
  | [], i, h => ⟨_, fun k => rfl⟩
  | y :: l, i, h => by
    have hlt := drop_lt h
    obtain ⟨z, hz⟩ := eqStringS_loop (u2 := u2) l (i + 1) (drop_succ h)
    have hy := (lwl_get h).2 (Ty.zero .str)
    have hy' : rd (Ty.zero .str) u0 (i : Int) = y := hy
    refine ⟨z, fun k => ?_⟩
    simp only [laws_eqStringS_w0]
    rw [if_pos ⟨by omega, by omega⟩]
    simp only [hy', strEq_self, Bool.not_true, cond_false, hz]

end
end Go.VE
