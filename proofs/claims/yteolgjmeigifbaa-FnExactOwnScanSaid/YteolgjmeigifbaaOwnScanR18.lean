/- Plain laws: scans. -/
import Derived.Test.YteolgjmeigifbaaOwnScanR17
namespace Go.VE
noncomputable section
set_option linter.unusedVariables false
set_option linter.unusedSimpArgs false
set_option maxRecDepth 100000

theorem take_set_succ {α : Type} (y : α) : ∀ (S : List α) (i : Nat), i < S.length → (S.set i y).take (i + 1) = S.take i ++ [y]
  | [], i, h => by simp at h
  | a :: S, 0, h => by simp
  | a :: S, i + 1, h => by
    have := take_set_succ y S i (by simpa using h)
    simp only [List.set_cons_succ, List.take_succ_cons, this, List.cons_append]
theorem drop_set_lt {α : Type} (y : α) : ∀ (S : List α) (i n : Nat), i < n → (S.set i y).drop n = S.drop n
  | [], i, n, h => by simp
  | a :: S, 0, n + 1, h => by simp
  | a :: S, i + 1, n + 1, h => by simpa using drop_set_lt y S i n (by omega)
  | a :: S, i, 0, h => by omega

theorem compact_b2 {st : Nat} : ∀ (l S : List ByteArray) (i k2 q : Nat) (p : ByteArray), S.drop (st + k2) = l → 1 ≤ k2 → i + 1 ≤ st + k2 → st + k2 ≤ S.length → S.length ≤ 3000000 → l.length < q → S.getD (st + (k2 - 1)) (Ty.zero .str) = p →
    ∃ (i' : Nat) (k' : Int) (S' : List ByteArray), S'.length = S.length ∧ i' ≤ S'.length ∧ S'.take i' = S.take i ++ ddT p l ∧ ∀ K, loopK slices_Compact_string_vo_b2 q ((i : Int), st, (k2 : Int), S) K = K ((i' : Int), st, k', S')
  | l, S, i, k2, 0, p, _, _, _, _, _, h, _ => by omega
  | [], S, i, k2, q + 1, p, hd, h1, hi, hs, hS, _, hp => by
    have hge : S.length ≤ st + k2 := by
      have := congrArg List.length hd
      rw [List.length_drop] at this
      simp at this
      omega
    refine ⟨i, (k2 : Int), S, rfl, by omega, by simp [ddT], fun K => ?_⟩
    simp only [loopK, slices_Compact_string_vo_b2, show ¬ (k2 : Int) < (S.length : Int) - (st : Int) by omega, decide_false, cond_false, Sum.elim_inr]
  | y :: l, S, i, k2, q + 1, p, hd, h1, hi, hs, hS, hq, hp => by
    have hlt := drop_lt hd
    have hy : S.getD (st + k2) (Ty.zero .str) = y := (lwl_get hd).2 _
    have w1 : IntKind.wrap .i64 ((k2 : Int) - 1) = ((k2 - 1 : Nat) : Int) := by rw [wrap64 (by omega) (by omega)]; omega
    have w2 : IntKind.wrap .i64 ((k2 : Int) + 1) = ((k2 + 1 : Nat) : Int) := wrap_succ (by omega)
    have w3 : IntKind.wrap .i64 ((i : Int) + 1) = ((i + 1 : Nat) : Int) := wrap_succ (by omega)
    have c1 : (k2 : Int) < (S.length : Int) - (st : Int) := by omega
    have c2 : (0 : Int) ≤ (k2 : Int) := by omega
    have c3 : (0 : Int) ≤ ((k2 - 1 : Nat) : Int) := by omega
    have c4 : ((k2 - 1 : Nat) : Int) < (S.length : Int) - (st : Int) := by omega
    have c5 : (0 : Int) ≤ (i : Int) := by omega
    have c6 : (i : Int) < (S.length : Int) := by omega
    cases he : strEq y p
    · obtain ⟨i', k', S', e1, e2, e3, e4⟩ := compact_b2 (st := st) l (S.set i y) (i + 1) (k2 + 1) q y (by rw [drop_set_lt y S i _ (by omega)]; exact drop_succ hd) (by omega) (by omega) (by rw [List.length_set]; omega) (by rw [List.length_set]; omega) (by simpa using hq)
        (by rw [show st + (k2 + 1 - 1) = st + k2 by omega]; rw [← hy]; simp only [List.getD, List.getElem?_set_ne (show i ≠ st + k2 by omega)])
      refine ⟨i', k', S', by rw [e1, List.length_set], e2, ?_, fun K => ?_⟩
      · rw [e3, take_set_succ y S i (by omega), List.append_assoc]
        simp only [ddT, he, cond_false, List.singleton_append]
      · simp only [loopK, slices_Compact_string_vo_b2, c1, c2, c3, c4, c5, c6, w1, decide_true, cond_true, and_self, if_true, Int.toNat_natCast, hy, hp, he, Bool.not_false, Sum.elim_inl, w2, w3]
        exact e4 K
    · have hyp := strEq_true he
      obtain ⟨i', k', S', e1, e2, e3, e4⟩ := compact_b2 (st := st) l S i (k2 + 1) q y (drop_succ hd) (by omega) (by omega) (by omega) hS (by simpa using hq) (by rw [show st + (k2 + 1 - 1) = st + k2 by omega]; exact hy)
      refine ⟨i', k', S', e1, e2, ?_, fun K => ?_⟩
      · rw [e3]
        simp only [ddT, he, cond_true]
      · simp only [loopK, slices_Compact_string_vo_b2, c1, c2, c3, c4, w1, decide_true, cond_true, and_self, if_true, Int.toNat_natCast, hy, hp, he, Bool.not_true, cond_false, Sum.elim_inl, w2]
        exact e4 K

theorem compact_b0 {T : List ByteArray} (hT : T.length ≤ 3000000) {r : List ByteArray} : ∀ (l : List ByteArray) (i q : Nat), T.drop i = l → 1 ≤ i → i ≤ T.length → l.length < q →
    (T = T.take i ++ ddT (T.getD (i - 1) (Ty.zero .str)) l ∧ ∃ j : Int, ∀ K, loopK slices_Compact_string_vo_b0 q ((i : Int), T, r) K = K (.inl (j, T, r))) ∨
      ∃ j : Int, ∀ K, loopK slices_Compact_string_vo_b0 q ((i : Int), T, r) K = K (.inr (j, T.take i ++ ddT (T.getD (i - 1) (Ty.zero .str)) l))
  | l, i, 0, _, _, _, h => by omega
  | [], i, q + 1, hd, h1, hi, _ => by
    have hge := lwl_nil hd
    left
    have : T.take i = T := List.take_of_length_le (by omega)
    refine ⟨by rw [this]; simp [ddT], (i : Int), fun K => ?_⟩
    simp only [loopK, slices_Compact_string_vo_b0, hge, decide_false, cond_false, Sum.elim_inr]
  | y :: l, i, q + 1, hd, h1, hi, hq => by
    have hlt := drop_lt hd
    have hy : T.getD i (Ty.zero .str) = y := (lwl_get hd).2 _
    have w1 : IntKind.wrap .i64 ((i : Int) - 1) = ((i - 1 : Nat) : Int) := by rw [wrap64 (by omega) (by omega)]; omega
    have w2 : IntKind.wrap .i64 ((i : Int) + 1) = ((i + 1 : Nat) : Int) := wrap_succ (by omega)
    have c1 : (i : Int) < (T.length : Int) := by omega
    have c2 : (0 : Int) ≤ (i : Int) := by omega
    have c3 : (0 : Int) ≤ ((i - 1 : Nat) : Int) := by omega
    have c4 : ((i - 1 : Nat) : Int) < (T.length : Int) := by omega
    have c5 : (i : Int) ≤ (T.length : Int) := by omega
    generalize hp : T.getD (i - 1) (Ty.zero .str) = p
    cases he : strEq y p
    · have htk : T.take (i + 1) = T.take i ++ [y] := by
        rw [List.take_succ_eq_append_getElem hlt]
        congr 2
        rw [← hy]
        simp [List.getD, hlt]
      have ih := compact_b0 hT (r := r) l (i + 1) q (drop_succ hd) (by omega) (by omega) (by simpa using hq)
      rw [show i + 1 - 1 = i by omega, hy, htk, List.append_assoc, List.singleton_append] at ih
      have hdd : ddT p (y :: l) = y :: ddT y l := by simp only [ddT, he, cond_false]
      rw [hdd]
      rcases ih with ⟨e, j, hj⟩ | ⟨j, hj⟩
      · left
        refine ⟨e, j, fun K => ?_⟩
        simp only [loopK, slices_Compact_string_vo_b0, c1, c2, c3, c4, w1, decide_true, cond_true, and_self, if_true, Int.toNat_natCast, hy, hp, he, cond_false, Sum.elim_inl, w2]
        exact hj K
      · right
        refine ⟨j, fun K => ?_⟩
        simp only [loopK, slices_Compact_string_vo_b0, c1, c2, c3, c4, w1, decide_true, cond_true, and_self, if_true, Int.toNat_natCast, hy, hp, he, cond_false, Sum.elim_inl, w2]
        exact hj K
    · right
      obtain ⟨i', k', S', e1, e2, e3, e4⟩ := compact_b2 (st := i) l T i 1 Fuel y (drop_succ hd) (by omega) (by omega) (by omega) hT (by have := fuel_big; have := congrArg List.length hd; rw [List.length_drop] at this; simp only [List.length_cons] at this; omega) (by rw [show i + (1 - 1) = i by omega]; exact hy)
      have hdd : ddT p (y :: l) = ddT y l := by simp only [ddT, he, cond_true]
      rw [hdd]
      refine ⟨(i' : Int), fun K => ?_⟩
      have e4' : ∀ K, loopK slices_Compact_string_vo_b2 Fuel ((i : Int), i, (1 : Int), T) K = K ((i' : Int), i, k', S') := e4
      have d1 : (0 : Int) ≤ (i' : Int) := by omega
      have d2 : (i' : Int) ≤ (S'.length : Int) := by omega
      have d3 : (i' : Int) ≤ ((S'.take i' ++ List.replicate (S'.length - i') (Ty.zero .str)).length : Int) := by
        rw [List.length_append, List.length_take, List.length_replicate]; omega
      have d4 : (S'.take i' ++ List.replicate (S'.length - i') (Ty.zero .str)).take i' = S'.take i' := by
        rw [List.take_append_of_le_length (by rw [List.length_take]; omega), List.take_take, Nat.min_self]
      rw [← e3]
      simp only [loopK, slices_Compact_string_vo_b0, c1, c2, c3, c4, c5, w1, decide_true, cond_true, and_self, if_true, Int.toNat_natCast, hy, hp, he, e4', d1, d2, d3, d4, Sum.elim_inr]

theorem slices_Compact_is {T : List ByteArray} (hT : T.length ≤ 3000000) : (∀ k, slices_Compact_string_vo_k T k = k (.inl (dd T))) ∨ (∀ k, slices_Compact_string_vo_k T k = k (.inr (dd T))) := by
  rw [slices_Compact_string_vo_e]
  unfold slices_Compact_string_vo_d
  match T, hT with
  | [], _ => exact .inl fun k => rfl
  | [a], _ => exact .inl fun k => rfl
  | a :: b :: l, hT =>
    have hn : ¬ (((a :: b :: l).length : Int) < 2) := by simp only [List.length_cons]; omega
    have h := compact_b0 hT (r := []) (b :: l) 1 Fuel rfl (by omega) (by simp) (by have := fuel_big; simp only [List.length_cons] at hT ⊢; omega)
    have hd : (a :: b :: l).take 1 ++ ddT ((a :: b :: l).getD (1 - 1) (Ty.zero .str)) (b :: l) = dd (a :: b :: l) := rfl
    rw [hd] at h
    have h1 : ((1 : Nat) : Int) = 1 := rfl
    rw [h1] at h
    simp only [hn, decide_false, cond_false]
    rcases h with ⟨e, j, hj⟩ | ⟨j, hj⟩
    · left
      intro k
      rw [hj]
      simp only [Sum.elim_inl]
      rw [← e]
    · right
      intro k
      rw [hj]
      rfl

theorem impl_keysOf_w0_is {u0} : ∀ (l : List tVersion.D) (s : List ByteArray) (i : Nat), s.length + l.length ≤ 3000000 → ∃ j : Int, ∀ k, impl_keysOf_w0 u0 l s i k = k (j, s ++ l.map fun v => v.1)
  | [], s, i, _ => ⟨_, fun k => by simp [impl_keysOf_w0]; rfl⟩
  | y :: l, s, i, h => by
    simp only [List.length_cons] at h
    obtain ⟨j, hj⟩ := impl_keysOf_w0_is (u0 := u0) l (s ++ [y.1]) (i + 1) (by simp; omega)
    refine ⟨j, fun k => ?_⟩
    have hm : s.length + [y.1].length ≤ VE.maxLen := by show _ ≤ 4294967296; simp; omega
    simp only [impl_keysOf_w0, if_pos hm, hj, List.map_cons, List.append_assoc, List.singleton_append]

theorem impl_keysOf_is {l : List tVersion.D} (hl : l.length ≤ 1048576) (k) : impl_keysOf_k l k = k (keysI l) := by
  rw [impl_keysOf_r (by omega)]
  unfold impl_keysOf_t
  obtain ⟨j, hj⟩ := impl_keysOf_w0_is (u0 := l) l [] 0 (by simp; omega)
  have hs : ∀ xs : List ByteArray, xs.length ≤ 1000000000 → ∀ k, slices_Sort_string_vo_k xs k = k (sortL xs) := fun xs h k => by
    rw [slices_Sort_string_vo_e]
    unfold slices_Sort_string_vo_d
    rw [if_pos h]
  rw [hj]
  simp only [List.nil_append]
  rw [hs _ (by rw [List.length_map]; omega)]
  rcases slices_Compact_is (T := sortL (l.map fun v => v.1)) (by rw [sortL_length, List.length_map]; omega) with h | h <;> rw [h] <;> rfl

end
end Go.VE
