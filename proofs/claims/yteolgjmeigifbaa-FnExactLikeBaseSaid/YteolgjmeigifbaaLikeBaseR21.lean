/- Plain laws: two lists of versions that look alike from a number on. -/
import Derived.Test.YteolgjmeigifbaaLikeBaseR19
namespace Go.VE
noncomputable section
set_option linter.unusedVariables false
set_option linter.unusedSimpArgs false
set_option maxRecDepth 100000

theorem concatV_w0 {u0 u2} {α : Type} : ∀ (l : List (List tVersion.D)) (s : Int) (i : Nat), 0 ≤ s → s + ((l.map List.length).sum : Int) ≤ 100000000 → ∃ j : Int, ∀ k, slices_Concat_Version_w0 u0 u2 l s i k = k (s + ((l.map List.length).sum : Int), j)
  | [], s, i, _, _ => ⟨_, fun k => by simp [slices_Concat_Version_w0]; rfl⟩
  | y :: l, s, i, h0, h => by
    simp only [List.map_cons, List.sum_cons] at h
    have hw : IntKind.wrap .i64 (s + (y.length : Int)) = s + (y.length : Int) := wrap64 (by omega) (by omega)
    obtain ⟨j, hj⟩ := concatV_w0 (u0 := u0) (u2 := u2) (α := α) l (s + (y.length : Int)) (i + 1) (by omega) (by push_cast at h; omega)
    refine ⟨j, fun k => ?_⟩
    simp only [slices_Concat_Version_w0, hw, show decide (s + (y.length : Int) < 0) = false by simp; omega, cond_false, hj]
    congr 2
    simp only [List.map_cons, List.sum_cons]
    push_cast
    omega

theorem concatV_w2 {u0} : ∀ (l : List (List tVersion.D)) (s : List tVersion.D) (i : Nat), s.length + (l.map List.length).sum ≤ 100000000 → ∃ j : Int, ∀ k, slices_Concat_Version_w2 u0 l s i k = k (j, s ++ l.flatten)
  | [], s, i, _ => ⟨_, fun k => by simp [slices_Concat_Version_w2]; rfl⟩
  | y :: l, s, i, h => by
    simp only [List.map_cons, List.sum_cons] at h
    obtain ⟨j, hj⟩ := concatV_w2 (u0 := u0) l (s ++ y) (i + 1) (by simp; omega)
    refine ⟨j, fun k => ?_⟩
    have hm : s.length + y.length ≤ VE.maxLen := by show _ ≤ 4294967296; omega
    simp only [slices_Concat_Version_w2, if_pos hm, hj, List.flatten_cons, List.append_assoc]

theorem slices_Concat_Version_is {a b : List tVersion.D} (ha : a.length ≤ 1048577) (hb : b.length ≤ 1048577) (k) : slices_Concat_Version_k [a, b] k = k (a ++ b) := by
  rw [slices_Concat_Version_r (by simp)]
  unfold slices_Concat_Version_t
  obtain ⟨j, hj⟩ := concatV_w0 (u0 := [a, b]) (u2 := [a, b]) (α := Unit) [a, b] 0 0 (by omega) (by simp; omega)
  rw [hj]
  have hg : ∀ n : Int, 0 ≤ n → n ≤ 100000000 → ∀ k, slices_Grow_Version_vn_k n k = k [] := by
    intro n h0 h1 k
    rw [slices_Grow_Version_vn_e]
    unfold slices_Grow_Version_vn_d
    have e0 : IntKind.wrap .i64 ((0 : Int) - 0) = 0 := wrap64 (by omega) (by omega)
    have e1 : IntKind.wrap .i64 (n - 0) = n := by rw [wrap64 (by omega) (by omega)]; omega
    simp only [e0, e1, show decide (n < 0) = false by simp; omega, cond_false]
    by_cases hn : n > 0
    · have e3 : 0 ≤ n ∧ n ≤ (VE.maxLen : Int) := ⟨h0, by show n ≤ 4294967296; omega⟩
      simp only [hn, decide_true, cond_true]
      rw [if_pos (by omega), if_pos e3, if_pos ⟨by omega, by omega⟩]
      simp
    · simp only [hn, decide_false, cond_false]
  simp only [Int.zero_add]
  rw [hg _ (by omega) (by simp; omega)]
  obtain ⟨j2, hj2⟩ := concatV_w2 (u0 := [a, b]) [a, b] [] 0 (by simp; omega)
  rw [hj2]
  simp


def prsF (u1 : List tRange.D) : List tRange.D → Nat → Bool
  | [], _ => true
  | y :: l, i => Ty.eqB tRange y (u1.getD i (Ty.zero tRange)) && prsF u1 l (i + 1)
def pairsB (a b : List tRange.D) : Bool := bif (a.length : Int) != (b.length : Int) then false else prsF b a 0

theorem spec_l06Pairs_w0_is {u0 u1 : List tRange.D} (he : u0.length = u1.length) {u2} : ∀ (l : List tRange.D) (i : Nat), u0.drop i = l → ∃ j : Int, ∀ k, spec_l06Pairs_w0 u0 u1 u2 l i k = k (bif prsF u1 l i then .inr j else .inl (false, j))
  | [], i, _ => ⟨_, fun k => rfl⟩
  | y :: l, i, hd => by
    have hlt := drop_lt hd
    obtain ⟨j, hj⟩ := spec_l06Pairs_w0_is he (u2 := u2) l (i + 1) (drop_succ hd)
    have hrd : rd (Ty.zero tRange) u1 (i : Int) = u1.getD i (Ty.zero tRange) := rfl
    simp only [spec_l06Pairs_w0, if_pos (show 0 ≤ (i : Int) ∧ (i : Int) < (u1.length : Int) by omega), hrd, hj, prsF]
    cases Ty.eqB tRange y (u1.getD i (Ty.zero tRange))
    · exact ⟨(i : Int), fun k => rfl⟩
    · exact ⟨j, fun k => rfl⟩
theorem slices_Equal_w0_is {u0 u1 : List tRange.D} (he : u0.length = u1.length) {u2} : ∀ (l : List tRange.D) (i : Nat), u0.drop i = l → ∃ j : Int, ∀ k, slices_Equal_Pair_w0 u0 u1 u2 l i k = k (bif prsF u1 l i then .inr j else .inl (false, j))
  | [], i, _ => ⟨_, fun k => rfl⟩
  | y :: l, i, hd => by
    have hlt := drop_lt hd
    obtain ⟨j, hj⟩ := slices_Equal_w0_is he (u2 := u2) l (i + 1) (drop_succ hd)
    have hrd : rd (Ty.zero tRange) u1 (i : Int) = u1.getD i (Ty.zero tRange) := rfl
    simp only [slices_Equal_Pair_w0, if_pos (show 0 ≤ (i : Int) ∧ (i : Int) < (u1.length : Int) by omega), hrd, hj, prsF]
    cases Ty.eqB tRange y (u1.getD i (Ty.zero tRange))
    · exact ⟨(i : Int), fun k => rfl⟩
    · exact ⟨j, fun k => rfl⟩

theorem spec_l06Pairs_is {a b : List tRange.D} (ha : a.length ≤ 1048576) (k) : spec_l06Pairs_k a b k = k (pairsB a b) := by
  rw [spec_l06Pairs_r (by omega)]
  unfold spec_l06Pairs_t pairsB
  by_cases he : a.length = b.length
  · have hb : ((a.length : Int) != (b.length : Int)) = false := by rw [he]; simp
    obtain ⟨j, hj⟩ := spec_l06Pairs_w0_is he (u2 := false) a 0 rfl
    simp only [hb, cond_false, hj]
    cases prsF b a 0 <;> rfl
  · have hb : ((a.length : Int) != (b.length : Int)) = true := by simp; omega
    simp only [hb, cond_true]
theorem slices_Equal_is {a b : List tRange.D} (ha : a.length ≤ 1048576) (k) : slices_Equal_Pair_k a b k = k (pairsB a b) := by
  rw [slices_Equal_Pair_r (by omega)]
  unfold slices_Equal_Pair_t pairsB
  by_cases he : a.length = b.length
  · have hb : ((a.length : Int) != (b.length : Int)) = false := by rw [he]; simp
    obtain ⟨j, hj⟩ := slices_Equal_w0_is he (u2 := false) a 0 rfl
    simp only [hb, cond_false, hj]
    cases prsF b a 0 <;> rfl
  · have hb : ((a.length : Int) != (b.length : Int)) = true := by simp; omega
    simp only [hb, cond_true]

def allR : tRange.D := ((⟨#[97]⟩ : ByteArray), (⟨#[122, 122, 122]⟩ : ByteArray))
def sameAt (a b : List tVersion.D) (at_ : Int) : Bool := pairsB (scanB a allR at_) (scanB b allR at_)
def sameFromB (a b : List tVersion.D) (snap : Int) : Bool := sameAt a b snap && (a ++ b).all fun v => !decide (v.2.2.2 > snap) || sameAt a b v.2.2.2

theorem impl_SameFrom_1_is {a b : List tVersion.D} (ha : a.length ≤ 1048576) (hb : b.length ≤ 1048576) (n : Int) (k) : impl_SameFrom_1_k n a b k = k (sameAt a b n, a, b) := by
  rw [impl_SameFrom_1_e]
  unfold impl_SameFrom_1_d sameAt
  have hA : ∀ k, impl_allKeys_k k = k allR := fun k => by rw [impl_allKeys_e]; rfl
  have hs := scanB_length a allR n
  simp only [hA, impl_ScanAt_is ha, impl_ScanAt_is hb, slices_Equal_is (show (scanB a allR n).length ≤ 1048576 by omega)]

theorem impl_SameFrom_loop {a b : List tVersion.D} (ha : a.length ≤ 1048576) (hb : b.length ≤ 1048576) {snap : Int} {v0 : Bool} {L : List tVersion.D} (hL : L.length ≤ 3000000) : ∀ (l : List tVersion.D) (i q : Nat), L.drop i = l → l.length < q → ∃ j : Int, ∀ K,
    loopK impl_SameFrom_b0 q (snap, v0, (L.length : Int), (i : Int), a, b, L) K = K (bif l.all (fun v => !decide (v.2.2.2 > snap) || sameAt a b v.2.2.2) then .inr (snap, v0, (L.length : Int), j, a, b, L) else .inl (snap, false, (L.length : Int), j, a, b, L))
  | l, i, 0, _, h => by omega
  | [], i, q + 1, hd, _ => by
    have hge := lwl_nil hd
    refine ⟨(i : Int), fun K => ?_⟩
    simp only [loopK, impl_SameFrom_b0, hge, decide_false, cond_false, Sum.elim_inr]
    rfl
  | y :: l, i, q + 1, hd, hq => by
    have hlt := drop_lt hd
    have hy : L.getD i (Ty.zero tVersion) = y := (lwl_get hd).2 _
    have w : IntKind.wrap .i64 ((i : Int) + 1) = ((i + 1 : Nat) : Int) := wrap_succ (by omega)
    have c1 : (i : Int) < (L.length : Int) := by omega
    have c2 : (0 : Int) ≤ (i : Int) := by omega
    obtain ⟨j, hj⟩ := impl_SameFrom_loop ha hb (snap := snap) (v0 := v0) hL l (i + 1) q (drop_succ hd) (by simpa using hq)
    simp only [loopK, impl_SameFrom_b0, c1, c2, decide_true, cond_true, and_self, if_true, Int.toNat_natCast, hy, impl_SameFrom_1_is ha hb, List.all_cons]
    cases decide (y.2.2.2 > snap)
    · refine ⟨j, fun K => ?_⟩
      simp only [cond_false, Sum.elim_inl, w, Bool.not_false, Bool.true_or, Bool.true_and]
      exact hj K
    · cases sameAt a b y.2.2.2
      · exact ⟨(i : Int), fun K => rfl⟩
      · refine ⟨j, fun K => ?_⟩
        simp only [cond_true, cond_false, Bool.not_true, Sum.elim_inl, w, Bool.or_true, Bool.true_and]
        exact hj K

theorem impl_SameFrom_is {a b : List tVersion.D} (ha : a.length ≤ 1048576) (hb : b.length ≤ 1048576) (snap : Int) (k) : impl_SameFrom_k a b snap k = k (sameFromB a b snap) := by
  rw [impl_SameFrom_e]
  unfold impl_SameFrom_d sameFromB
  have hlen : (a ++ b).length ≤ 3000000 := by rw [List.length_append]; omega
  obtain ⟨j, hj⟩ := impl_SameFrom_loop ha hb (snap := snap) (v0 := false) hlen (a ++ b) 0 Fuel rfl (Nat.lt_of_lt_of_le (by omega) fuel_big)
  have hz : ((0 : Nat) : Int) = 0 := rfl
  rw [hz] at hj
  simp only [slices_Concat_Version_is (show a.length ≤ 1048577 by omega) (show b.length ≤ 1048577 by omega), hj]
  cases (a ++ b).all (fun v => !decide (v.2.2.2 > snap) || sameAt a b v.2.2.2)
  · simp only [cond_false, Sum.elim_inl, Bool.and_false]
  · simp only [cond_true, Sum.elim_inr, impl_SameFrom_1_is ha hb, Bool.and_true]

theorem spec_SameFrom_j11 {a b : List tVersion.D} (ha : a.length ≤ 1048576) (hb : b.length ≤ 1048576) {snap : Int} {v : Bool} {i c : Int} (K) :
    spec_SameFrom_j5000011 (a, b, snap, v, i, c, allR.1, allR.2) K = K (bif !decide (c > snap) || sameAt a b c then .inr (a, b, snap, v, i, c, allR.1, allR.2) else .inl (a, b, snap, false, i, c, allR.1, allR.2)) := by
  have hs := scanB_length a allR c
  have e1 : ∀ (l : List tVersion.D) (hl : l.length ≤ 1048576) (k), spec_ScanAt_k l (allR.1, allR.2) c k = k (scanB l allR c) := fun l hl k => spec_ScanAt_is hl allR c k
  simp only [spec_SameFrom_j5000011, e1 a ha, e1 b hb, spec_l06Pairs_is (show (scanB a allR c).length ≤ 1048576 by omega)]
  unfold sameAt
  cases decide (c > snap) <;> cases pairsB (scanB a allR c) (scanB b allR c) <;> rfl

theorem spec_SameFrom_loop {a b : List tVersion.D} (ha : a.length ≤ 1048576) (hb : b.length ≤ 1048576) {snap : Int} : ∀ (l : List tVersion.D) (i q : Nat), (a ++ b).drop i = l → l.length < q → ∃ j : Int, ∀ K,
    loopK spec_SameFrom_b0 q (a, b, snap, false, (i : Int), allR.1, allR.2) K = K (bif l.all (fun v => !decide (v.2.2.2 > snap) || sameAt a b v.2.2.2) then .inl (a, b, snap, false, j, allR.1, allR.2) else .inr (a, b, snap, false, j, allR.1, allR.2))
  | l, i, 0, _, h => by omega
  | [], i, q + 1, hd, _ => by
    have hge := lwl_nil hd
    rw [List.length_append] at hge
    have w0 : IntKind.wrap .i64 ((a.length : Int) + (b.length : Int)) = ((a.length + b.length : Nat) : Int) := by rw [wrap64 (by omega) (by omega)]; push_cast; rfl
    refine ⟨(i : Int), fun K => ?_⟩
    simp only [loopK, spec_SameFrom_b0, w0, hge, decide_false, cond_false, Sum.elim_inr]
    rfl
  | y :: l, i, q + 1, hd, hq => by
    have hlt := drop_lt hd
    rw [List.length_append] at hlt
    have hy : (a ++ b).getD i (Ty.zero tVersion) = y := (lwl_get hd).2 _
    have w0 : IntKind.wrap .i64 ((a.length : Int) + (b.length : Int)) = ((a.length + b.length : Nat) : Int) := by rw [wrap64 (by omega) (by omega)]; push_cast; rfl
    have w : IntKind.wrap .i64 ((i : Int) + 1) = ((i + 1 : Nat) : Int) := wrap_succ (by omega)
    have c0 : (i : Int) < ((a.length + b.length : Nat) : Int) := by omega
    have c2 : (0 : Int) ≤ (i : Int) := by omega
    obtain ⟨j, hj⟩ := spec_SameFrom_loop ha hb (snap := snap) l (i + 1) q (drop_succ hd) (by simpa using hq)
    have hstep : ∀ K, spec_SameFrom_b0 (a, b, snap, false, (i : Int), allR.1, allR.2) K = K (bif !decide (y.2.2.2 > snap) || sameAt a b y.2.2.2 then .inl (a, b, snap, false, ((i + 1 : Nat) : Int), allR.1, allR.2) else .inr (.inr (a, b, snap, false, (i : Int), allR.1, allR.2))) := by
      intro K
      by_cases hi : i < a.length
      · have hya : rd (Ty.zero tVersion) a (i : Int) = y := by
          rw [← hy]
          show a.getD i _ = _
          simp [List.getD, List.getElem?_append_left hi]
        simp only [spec_SameFrom_b0, w0, c0, show (i : Int) < (a.length : Int) by omega, c2, and_self, if_true, decide_true, cond_true, hya, spec_SameFrom_j11 ha hb]
        cases (!decide (y.2.2.2 > snap) || sameAt a b y.2.2.2)
        · rfl
        · simp only [cond_true, Sum.elim_inr, w]
      · have w1 : IntKind.wrap .i64 ((i : Int) - (a.length : Int)) = ((i - a.length : Nat) : Int) := by rw [wrap64 (by omega) (by omega)]; omega
        have hyb : rd (Ty.zero tVersion) b ((i - a.length : Nat) : Int) = y := by
          rw [← hy]
          show b.getD (i - a.length) _ = _
          simp [List.getD, List.getElem?_append_right (show a.length ≤ i by omega)]
        simp only [spec_SameFrom_b0, w0, c0, show ¬ (i : Int) < (a.length : Int) by omega, decide_true, decide_false, cond_true, cond_false, w1, if_pos (show 0 ≤ ((i - a.length : Nat) : Int) ∧ ((i - a.length : Nat) : Int) < (b.length : Int) by omega), hyb, spec_SameFrom_j11 ha hb]
        cases (!decide (y.2.2.2 > snap) || sameAt a b y.2.2.2)
        · rfl
        · simp only [cond_true, Sum.elim_inr, w]
    simp only [loopK, hstep, List.all_cons]
    cases (!decide (y.2.2.2 > snap) || sameAt a b y.2.2.2)
    · exact ⟨(i : Int), fun K => rfl⟩
    · refine ⟨j, fun K => ?_⟩
      simp only [cond_true, Sum.elim_inl, Bool.true_and]
      exact hj K

theorem spec_SameFrom_is {a b : List tVersion.D} (ha : a.length ≤ 1048576) (hb : b.length ≤ 1048576) (snap : Int) (k) : spec_SameFrom_k a b snap k = k (sameFromB a b snap) := by
  rw [spec_SameFrom_e]
  unfold spec_SameFrom_d sameFromB
  have hA : ∀ k, spec_l06All_k k = k allR := fun k => by rw [spec_l06All_e]; rfl
  have hs := scanB_length a allR snap
  obtain ⟨j, hj⟩ := spec_SameFrom_loop ha hb (snap := snap) (a ++ b) 0 Fuel rfl (Nat.lt_of_lt_of_le (by rw [List.length_append]; omega) fuel_big)
  have hz : ((0 : Nat) : Int) = 0 := rfl
  rw [hz] at hj
  simp only [hA, spec_ScanAt_is ha, spec_ScanAt_is hb, spec_l06Pairs_is (show (scanB a allR snap).length ≤ 1048576 by omega), hj]
  rw [show pairsB (scanB a allR snap) (scanB b allR snap) = sameAt a b snap from rfl]
  cases sameAt a b snap
  · rfl
  · simp only [Bool.not_true, cond_false, Bool.true_and]
    cases (a ++ b).all (fun v => !decide (v.2.2.2 > snap) || sameAt a b v.2.2.2) <;> rfl

end
end Go.VE
