/- Plain laws: what an own scan sees. -/
import Derived.Test.YteolgjmeigifbaaOwnScanR20
namespace Go.VE
noncomputable section
set_option linter.unusedVariables false
set_option linter.unusedSimpArgs false
set_option maxRecDepth 100000

def asV (w : tWrite.D) : tVersion.D := (w.1, ((⟨#[]⟩ : ByteArray), (false, (0 : Int))))

theorem spec_OwnScan_w0_is {u0 u2 u3 u4 u5 u6 u7 u8 u9 u10 u11} : ∀ (l : List tWrite.D) (s : List tVersion.D) (i : Nat), s.length + l.length ≤ 3000000 → ∃ j : Int, ∀ k, spec_OwnScan_w0 u0 u2 u3 u4 u5 u6 u7 u8 u9 u10 u11 l s i k = k (j, s ++ l.map asV)
  | [], s, i, _ => ⟨_, fun k => by simp [spec_OwnScan_w0]; rfl⟩
  | y :: l, s, i, h => by
    simp only [List.length_cons] at h
    obtain ⟨j, hj⟩ := spec_OwnScan_w0_is (u0 := u0) (u2 := u2) (u3 := u3) (u4 := u4) (u5 := u5) (u6 := u6) (u7 := u7) (u8 := u8) (u9 := u9) (u10 := u10) (u11 := u11) l (s ++ [asV y]) (i + 1) (by simp; omega)
    refine ⟨j, fun k => ?_⟩
    have hm : s.length + [asV y].length ≤ VE.maxLen := by show _ ≤ 4294967296; simp; omega
    have e := hj k
    rw [List.append_assoc, List.singleton_append] at e
    simp only [spec_OwnScan_w0, List.map_cons]
    rw [← e]
    exact if_pos hm
theorem impl_OwnScan_w0_is {u0 u1 u4 u5 u6 u7 u8 u9 u10 u11 u12 u13} : ∀ (l : List tWrite.D) (s : List ByteArray) (i : Nat), s.length + l.length ≤ 3000000 → ∃ j : Int, ∀ k, impl_OwnScan_w0 u0 u1 u4 u5 u6 u7 u8 u9 u10 u11 u12 u13 l s i k = k (j, s ++ l.map fun w => w.1)
  | [], s, i, _ => ⟨_, fun k => by simp [impl_OwnScan_w0]; rfl⟩
  | y :: l, s, i, h => by
    simp only [List.length_cons] at h
    obtain ⟨j, hj⟩ := impl_OwnScan_w0_is (u0 := u0) (u1 := u1) (u4 := u4) (u5 := u5) (u6 := u6) (u7 := u7) (u8 := u8) (u9 := u9) (u10 := u10) (u11 := u11) (u12 := u12) (u13 := u13) l (s ++ [y.1]) (i + 1) (by simp; omega)
    refine ⟨j, fun k => ?_⟩
    have hm : s.length + [y.1].length ≤ VE.maxLen := by show _ ≤ 4294967296; simp; omega
    simp only [impl_OwnScan_w0, if_pos hm, hj, List.map_cons, List.append_assoc, List.singleton_append]

def ownF (t : tTxn.D) (l : List tVersion.D) (k : ByteArray) : Option tRange.D := bif (ownGetB t l k).2 then some (k, (ownGetB t l k).1) else none
def ownI (t : tTxn.D) (l : List tVersion.D) (r : tRange.D) (k : ByteArray) : Option tRange.D := bif (ownGetB t l k).2 && inRangeB r k then some (k, (ownGetB t l k).1) else none

theorem spec_OwnScan_loop {t : tTxn.D} (ht : tTxn.wt t ≤ 1048576) {u0 : List tVersion.D} (hu : u0.length ≤ 1048576) {ks : List ByteArray} (hk : ks.length ≤ 1048576) : ∀ (l : List ByteArray) (out : List tRange.D) (i q : Nat), ks.drop i = l → l.length < q → out.length + l.length ≤ 3000000 → ∃ j : Int, ∀ K,
    loopK spec_OwnScan_b2 q (u0, (i : Int), t.1, t.2.1, t.2.2.1, t.2.2.2.1, t.2.2.2.2.1, t.2.2.2.2.2.1, t.2.2.2.2.2.2.1, t.2.2.2.2.2.2.2, out, ks) K = K (u0, j, t.1, t.2.1, t.2.2.1, t.2.2.2.1, t.2.2.2.2.1, t.2.2.2.2.2.1, t.2.2.2.2.2.2.1, t.2.2.2.2.2.2.2, out ++ l.filterMap (ownF t u0), ks)
  | l, out, i, 0, _, h, _ => by omega
  | [], out, i, q + 1, hd, _, _ => by
    have hge := lwl_nil hd
    refine ⟨(i : Int), fun K => ?_⟩
    simp only [loopK, spec_OwnScan_b2, hge, decide_false, cond_false, Sum.elim_inr, List.filterMap_nil, List.append_nil]
  | y :: l, out, i, q + 1, hd, hq, ha => by
    simp only [List.length_cons] at ha
    have hlt := drop_lt hd
    have hy : ks.getD i (Ty.zero .str) = y := (lwl_get hd).2 _
    have w : IntKind.wrap .i64 ((i : Int) + 1) = ((i + 1 : Nat) : Int) := wrap_succ (by omega)
    have c1 : (i : Int) < (ks.length : Int) := by omega
    have c2 : (0 : Int) ≤ (i : Int) := by omega
    cases he : (ownGetB t u0 y).2
    · obtain ⟨j, hj⟩ := spec_OwnScan_loop ht hu hk l out (i + 1) q (drop_succ hd) (by simpa using hq) (by omega)
      refine ⟨j, fun K => ?_⟩
      simp only [loopK, spec_OwnScan_b2, pair_eta, c1, c2, decide_true, cond_true, and_self, if_true, Int.toNat_natCast, hy, spec_OwnGet_is ht hu, he, cond_false, Sum.elim_inl, w, List.filterMap_cons, ownF]
      exact hj K
    · have hm : out.length + [(y, (ownGetB t u0 y).1)].length ≤ VE.maxLen := by show _ ≤ 4294967296; simp; omega
      obtain ⟨j, hj⟩ := spec_OwnScan_loop ht hu hk l (out ++ [(y, (ownGetB t u0 y).1)]) (i + 1) q (drop_succ hd) (by simpa using hq) (by simp; omega)
      refine ⟨j, fun K => ?_⟩
      simp only [loopK, spec_OwnScan_b2, pair_eta, c1, c2, decide_true, cond_true, and_self, if_true, Int.toNat_natCast, hy, spec_OwnGet_is ht hu, he, if_pos hm, Sum.elim_inl, w, List.filterMap_cons, ownF]
      rw [hj K, List.append_assoc, List.singleton_append]

theorem impl_OwnScan_loop {t : tTxn.D} (ht : tTxn.wt t ≤ 1048576) {r : tRange.D} {u0 : List tVersion.D} (hu : u0.length ≤ 1048576) {ks : List ByteArray} (hk : ks.length ≤ 2097152) : ∀ (l : List ByteArray) (out : List tRange.D) (i q : Nat), ks.drop i = l → l.length < q → out.length + l.length ≤ 3000000 → ∃ j : Int, ∀ K,
    loopK impl_OwnScan_b2 q (u0, (ks.length : Int), (i : Int), t.1, t.2.1, t.2.2.1, t.2.2.2.1, t.2.2.2.2.1, t.2.2.2.2.2.1, t.2.2.2.2.2.2.1, t.2.2.2.2.2.2.2, r.1, r.2, out, ks) K = K (u0, (ks.length : Int), j, t.1, t.2.1, t.2.2.1, t.2.2.2.1, t.2.2.2.2.1, t.2.2.2.2.2.1, t.2.2.2.2.2.2.1, t.2.2.2.2.2.2.2, r.1, r.2, out ++ l.filterMap (ownI t u0 r), ks)
  | l, out, i, 0, _, h, _ => by omega
  | [], out, i, q + 1, hd, _, _ => by
    have hge := lwl_nil hd
    refine ⟨(i : Int), fun K => ?_⟩
    simp only [loopK, impl_OwnScan_b2, hge, decide_false, cond_false, Sum.elim_inr, List.filterMap_nil, List.append_nil]
  | y :: l, out, i, q + 1, hd, hq, ha => by
    simp only [List.length_cons] at ha
    have hlt := drop_lt hd
    have hy : ks.getD i (Ty.zero .str) = y := (lwl_get hd).2 _
    have w : IntKind.wrap .i64 ((i : Int) + 1) = ((i + 1 : Nat) : Int) := wrap_succ (by omega)
    have c1 : (i : Int) < (ks.length : Int) := by omega
    have c2 : (0 : Int) ≤ (i : Int) := by omega
    have hin : ∀ k, impl_InRange_k r y k = k (inRangeB r y) := fun k => impl_InRange_is r y k
    cases he : (ownGetB t u0 y).2
    · obtain ⟨j, hj⟩ := impl_OwnScan_loop ht (r := r) hu hk l out (i + 1) q (drop_succ hd) (by simpa using hq) (by omega)
      refine ⟨j, fun K => ?_⟩
      simp only [loopK, impl_OwnScan_b2, pair_eta, c1, c2, decide_true, cond_true, and_self, if_true, Int.toNat_natCast, hy, impl_OwnGet_is ht hu, he, cond_false, Sum.elim_inl, w, List.filterMap_cons, ownI, Bool.false_and]
      exact hj K
    · cases hr : inRangeB r y
      · obtain ⟨j, hj⟩ := impl_OwnScan_loop ht (r := r) hu hk l out (i + 1) q (drop_succ hd) (by simpa using hq) (by omega)
        refine ⟨j, fun K => ?_⟩
        simp only [loopK, impl_OwnScan_b2, pair_eta, c1, c2, decide_true, cond_true, and_self, if_true, Int.toNat_natCast, hy, impl_OwnGet_is ht hu, he, hin, hr, cond_false, Sum.elim_inl, w, List.filterMap_cons, ownI, Bool.true_and]
        exact hj K
      · have hm : out.length + [(y, (ownGetB t u0 y).1)].length ≤ VE.maxLen := by show _ ≤ 4294967296; simp; omega
        obtain ⟨j, hj⟩ := impl_OwnScan_loop ht (r := r) hu hk l (out ++ [(y, (ownGetB t u0 y).1)]) (i + 1) q (drop_succ hd) (by simpa using hq) (by simp; omega)
        refine ⟨j, fun K => ?_⟩
        simp only [loopK, impl_OwnScan_b2, pair_eta, c1, c2, decide_true, cond_true, and_self, if_true, Int.toNat_natCast, hy, impl_OwnGet_is ht hu, he, hin, hr, if_pos hm, Sum.elim_inl, w, List.filterMap_cons, ownI, Bool.true_and]
        rw [hj K, List.append_assoc, List.singleton_append]

def ownKeys (t : tTxn.D) (l : List tVersion.D) : List ByteArray := dd (sortL (keysI l ++ t.2.2.2.2.2.1.map fun w => w.1))
def ownScanB (t : tTxn.D) (l : List tVersion.D) (r : tRange.D) : List tRange.D := (keysS r (l ++ t.2.2.2.2.2.1.map asV) []).filterMap (ownF t l)

theorem ownKeys_same (t : tTxn.D) (l : List tVersion.D) (r : tRange.D) : (ownKeys t l).filter (fun k => inRangeB r k) = keysS r (l ++ t.2.2.2.2.2.1.map asV) [] := by
  obtain ⟨s1, s2⟩ := sortL_asc (keysI l ++ t.2.2.2.2.2.1.map fun w => w.1)
  obtain ⟨d1, d2⟩ := dd_asc s1
  obtain ⟨e1, e2⟩ := sortL_asc (l.map fun v => v.1)
  obtain ⟨f1, f2⟩ := dd_asc e1
  obtain ⟨k1, k2⟩ := keysS_asc r (l ++ t.2.2.2.2.2.1.map asV) [] List.Pairwise.nil
  refine asc_ext (List.Pairwise.filter _ d1) k1 (fun x => ?_)
  have hk : x ∈ keysI l ↔ x ∈ l.map fun v => v.1 := by unfold keysI; rw [f2 x, e2 x]
  have hm : ((t.2.2.2.2.2.1.map asV).map fun v => v.1) = t.2.2.2.2.2.1.map fun w => w.1 := by rw [List.map_map]; rfl
  rw [List.mem_filter, k2 x]
  unfold ownKeys
  rw [d2 x, s2 x, List.mem_append, hk, List.map_append, hm, List.mem_append]
  constructor
  · rintro ⟨a, b⟩; exact .inr ⟨b, a⟩
  · rintro (a | ⟨a, b⟩)
    · cases a
    · exact ⟨b, a⟩

theorem own_same (t : tTxn.D) (l : List tVersion.D) (r : tRange.D) : (ownKeys t l).filterMap (ownI t l r) = ownScanB t l r := by
  unfold ownScanB
  rw [← ownKeys_same, ← filterMap_filter']
  congr 1
  funext k
  unfold ownI ownF
  cases inRangeB r k <;> cases (ownGetB t l k).2 <;> rfl

theorem ownScanB_length (t : tTxn.D) (l : List tVersion.D) (r : tRange.D) : (ownScanB t l r).length ≤ l.length + t.2.2.2.2.2.1.length := by
  unfold ownScanB
  have := keysS_length (l := l ++ t.2.2.2.2.2.1.map asV) r
  rw [List.length_append, List.length_map] at this
  exact Nat.le_trans (List.length_filterMap_le _ _) this

theorem spec_OwnScan_is {t : tTxn.D} (ht : tTxn.wt t ≤ 1048576) {l : List tVersion.D} (hl : l.length + t.2.2.2.2.2.1.length ≤ 1048576) (r : tRange.D) (k) : spec_OwnScan_k t l r k = k (ownScanB t l r) := by
  rw [spec_OwnScan_r (by omega)]
  unfold spec_OwnScan_t
  obtain ⟨j0, h0⟩ := spec_OwnScan_w0_is (u0 := l) (u2 := t.1) (u3 := t.2.1) (u4 := t.2.2.1) (u5 := t.2.2.2.1) (u6 := t.2.2.2.2.1) (u7 := t.2.2.2.2.2.1) (u8 := t.2.2.2.2.2.2.1) (u9 := t.2.2.2.2.2.2.2) (u10 := r.1) (u11 := r.2) t.2.2.2.2.2.1 l 0 (by omega)
  have hka := keysS_length (l := l ++ t.2.2.2.2.2.1.map asV) r
  have hal : (l ++ t.2.2.2.2.2.1.map asV).length ≤ 1048576 := by rw [List.length_append, List.length_map]; omega
  obtain ⟨j, hj⟩ := spec_OwnScan_loop ht (u0 := l) (by omega) (ks := keysS r (l ++ t.2.2.2.2.2.1.map asV) []) (by omega) _ [] 0 Fuel rfl (Nat.lt_of_lt_of_le (by rw [List.drop_zero]; omega) fuel_big) (by simp; omega)
  have hz : ((0 : Nat) : Int) = 0 := rfl
  rw [hz] at hj
  rw [if_pos (by show _ ≤ 4294967296; simp; omega)]
  simp only [List.nil_append, h0, spec_l06Keys_is hal, hj, List.drop_zero]
  rfl

theorem impl_OwnScan_is {t : tTxn.D} (ht : tTxn.wt t ≤ 1048576) {l : List tVersion.D} (hl : l.length + t.2.2.2.2.2.1.length ≤ 1048576) (r : tRange.D) (k) : impl_OwnScan_k t l r k = k (ownScanB t l r) := by
  rw [impl_OwnScan_r (by omega)]
  unfold impl_OwnScan_t
  have hki := keysI_length l
  obtain ⟨j0, h0⟩ := impl_OwnScan_w0_is (u0 := l) (u1 := t.2.2.2.2.2.1) (u4 := t.1) (u5 := t.2.1) (u6 := t.2.2.1) (u7 := t.2.2.2.1) (u8 := t.2.2.2.2.1) (u9 := t.2.2.2.2.2.1) (u10 := t.2.2.2.2.2.2.1) (u11 := t.2.2.2.2.2.2.2) (u12 := r.1) (u13 := r.2) t.2.2.2.2.2.1 (keysI l) 0 (by omega)
  have hs : ∀ xs : List ByteArray, xs.length ≤ 1000000000 → ∀ k, slices_Sort_string_vo_k xs k = k (sortL xs) := fun xs h k => by
    rw [slices_Sort_string_vo_e]
    unfold slices_Sort_string_vo_d
    rw [if_pos h]
  have hkl : (keysI l ++ t.2.2.2.2.2.1.map fun w => w.1).length ≤ 1048576 := by rw [List.length_append, List.length_map]; omega
  have hsl : (sortL (keysI l ++ t.2.2.2.2.2.1.map fun w => w.1)).length ≤ 1048576 := by rw [sortL_length]; exact hkl
  have hol : (ownKeys t l).length ≤ 1048576 := by
    obtain ⟨s1, s2⟩ := sortL_asc (keysI l ++ t.2.2.2.2.2.1.map fun w => w.1)
    obtain ⟨d1, d2⟩ := dd_asc s1
    have := asc_length (m := keysI l ++ t.2.2.2.2.2.1.map fun w => w.1) d1 (fun x hx => (s2 x).1 ((d2 x).1 hx))
    unfold ownKeys
    omega
  obtain ⟨j, hj⟩ := impl_OwnScan_loop ht (r := r) (u0 := l) (by omega) (ks := ownKeys t l) (by omega) _ [] 0 Fuel rfl (Nat.lt_of_lt_of_le (by rw [List.drop_zero]; omega) fuel_big) (by simp; omega)
  have hz : ((0 : Nat) : Int) = 0 := rfl
  rw [hz] at hj
  simp only [impl_keysOf_is (show l.length ≤ 1048576 by omega), h0, hs _ (show (keysI l ++ t.2.2.2.2.2.1.map fun w => w.1).length ≤ 1000000000 by omega)]
  have e : dd (sortL (keysI l ++ t.2.2.2.2.2.1.map fun w => w.1)) = ownKeys t l := rfl
  rcases slices_Compact_is (T := sortL (keysI l ++ t.2.2.2.2.2.1.map fun w => w.1)) (by omega) with h | h
  · rw [h, e]
    simp only [Sum.elim_inl, hj, List.nil_append, List.drop_zero]
    exact congrArg k (own_same t l r)
  · rw [h, e]
    simp only [Sum.elim_inr, hj, List.nil_append, List.drop_zero]
    exact congrArg k (own_same t l r)

theorem laws_markVersionS_vo_ex2 {l : List tVersion.D} (hl : l.length ≤ 1048576) {c : Int} (h0 : 0 ≤ c) (hc : c ≤ 4500000) : ∃ S' : List tVersion.D, ∀ k, laws_markVersionS_vo_k c l k = k (c + 4 * (l.length : Int), S') := by
  rw [laws_markVersionS_vo_e]
  unfold laws_markVersionS_vo_d
  obtain ⟨j, S', hj⟩ := markVersionS_loop l.length 0 l c Fuel (by omega) (Nat.lt_of_lt_of_le (by omega) fuel_big) h0 (by omega) hl
  have hz : ((0 : Nat) : Int) = 0 := rfl
  rw [hz] at hj
  exact ⟨S', fun k => by rw [hj]⟩

end
end Go.VE
