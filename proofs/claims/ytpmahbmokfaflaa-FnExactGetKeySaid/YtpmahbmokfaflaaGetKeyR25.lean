/- Plain laws: marks of lists of transactions, of bases and engines that own all their slices. -/
import Derived.Test.YtpmahbmokfaflaaGetKeyR8
namespace Go.VE
noncomputable section
set_option linter.unusedVariables false
set_option linter.unusedSimpArgs false
set_option maxRecDepth 100000

theorem markRangeS_vo_at {l : List tRange.D} (hl : l.length ≤ 1048576) {c : Int} (h0 : 0 ≤ c) (hc : c + 2 * l.length ≤ 9000000) (k) : n39n_k c l k = k (c + 2 * l.length, markR c l) := by
  rw [n39n_e]
  unfold n39n_d
  obtain ⟨j, hj⟩ := markRangeS_loop l [] c Fuel h0 hc (by simpa using hl) (by have := fuel_big; omega)
  simp only [List.length_nil, List.nil_append] at hj
  rw [show ((0 : Int)) = ((0 : Nat) : Int) from rfl, hj]

theorem markWriteS_vo_at {l : List tWrite.D} (hl : l.length ≤ 1048576) {c : Int} (h0 : 0 ≤ c) (hc : c + 3 * l.length ≤ 9000000) (k) : n43n_k c l k = k (c + 3 * l.length, markW c l) := by
  rw [n43n_e]
  unfold n43n_d
  obtain ⟨j, hj⟩ := markWriteS_loop l [] c Fuel h0 hc (by simpa using hl) (by have := fuel_big; omega)
  simp only [List.length_nil, List.nil_append] at hj
  rw [show ((0 : Int)) = ((0 : Nat) : Int) from rfl, hj]

/-- How many marks one takes. -/
def cntT1 (t : tTxn.D) : Int := 6 + 2 * (t.2.2.2.2.1.length : Int) + 3 * (t.2.2.2.2.2.1.length : Int)
def cntT : List tTxn.D → Int
  | [] => 0
  | y :: l => cntT1 y + cntT l
def markT1 (c : Int) (t : tTxn.D) : tTxn.D :=
  (c, (c + 1, (c + 2, (c + 3, (markR (c + 4) t.2.2.2.2.1, (markW (c + 4 + 2 * (t.2.2.2.2.1.length : Int)) t.2.2.2.2.2.1,
    ((c + 4 + 2 * (t.2.2.2.2.1.length : Int) + 3 * (t.2.2.2.2.2.1.length : Int)).tmod 3 == 0, markB (c + 4 + 2 * (t.2.2.2.2.1.length : Int) + 3 * (t.2.2.2.2.2.1.length : Int) + 1))))))))
def markT : Int → List tTxn.D → List tTxn.D
  | _, [] => []
  | c, y :: l => markT1 c y :: markT (c + cntT1 y) l

theorem cntT1_pos (t : tTxn.D) : 6 ≤ cntT1 t := by unfold cntT1; omega
theorem cntT_pos : ∀ l : List tTxn.D, 0 ≤ cntT l
  | [] => Int.le_refl _
  | y :: l => by have := cntT1_pos y; have := cntT_pos l; simp only [cntT]; omega

theorem markT_length : ∀ (c : Int) (l : List tTxn.D), (markT c l).length = l.length
  | _, [] => rfl
  | c, y :: l => by simp [markT, markT_length (c + cntT1 y) l]

theorem cntT_wt : ∀ (l : List tTxn.D), cntT l ≤ 6 * (l.length + wtL tTxn l : Nat)
  | [] => by simp [cntT, wtL]
  | y :: l => by
    have h := cntT_wt l
    have hw := wtTxn y
    have h1 : (Ty.slice tRange).wt y.2.2.2.2.1 = y.2.2.2.2.1.length + wtL tRange y.2.2.2.2.1 := Ty.wt_slice _ _
    have h2 : (Ty.slice tWrite).wt y.2.2.2.2.2.1 = y.2.2.2.2.2.1.length + wtL tWrite y.2.2.2.2.2.1 := Ty.wt_slice _ _
    simp only [cntT, cntT1, List.length_cons, wtL]
    push_cast at h ⊢
    omega

theorem markTxnS_loop : ∀ (l pre : List tTxn.D) (c : Int) (q : Nat), (∀ y ∈ l, y.2.2.2.2.1.length ≤ 1048576 ∧ y.2.2.2.2.2.1.length ≤ 1048576) → 0 ≤ c → c + cntT l ≤ 9000000 → pre.length + l.length ≤ 1048576 → l.length < q →
    ∃ j : Int, ∀ k, loopK n41n_b0 q (c, (pre.length : Int), pre ++ l) k = k (c + cntT l, j, pre ++ markT c l)
  | [], pre, c, q, hw, h0, hc, hl, hq => by
    obtain ⟨q, rfl⟩ : ∃ r, q = r + 1 := ⟨q - 1, by omega⟩
    refine ⟨pre.length, fun k => ?_⟩
    simp only [loopK, n41n_b0, List.append_nil, Int.lt_irrefl, decide_false, cond_false, Sum.elim_inr, markT, cntT]
    simp
  | y :: l, pre, c, q, hw, h0, hc, hl, hq => by
    obtain ⟨q, rfl⟩ : ∃ r, q = r + 1 := ⟨q - 1, by omega⟩
    simp only [List.length_cons] at hl hq
    obtain ⟨hy1, hy2⟩ := hw y (by simp)
    have hp1 := cntT_pos l
    simp only [cntT] at hc
    obtain ⟨j, hj⟩ := markTxnS_loop l (pre ++ [markT1 c y]) (c + cntT1 y) q (fun z hz => hw z (by simp [hz])) (by have := cntT1_pos y; omega) (by omega) (by rw [List.length_append, List.length_singleton]; omega) (by omega)
    refine ⟨j, fun k => ?_⟩
    have hlt : ∀ v : tTxn.D, (pre.length : Int) < ((pre ++ v :: l).length : Int) := fun v => by rw [List.length_append, List.length_cons]; omega
    have hcy : cntT1 y = 6 + 2 * (y.2.2.2.2.1.length : Int) + 3 * (y.2.2.2.2.2.1.length : Int) := rfl
    have w1 : IntKind.wrap .i64 (c + 1) = c + 1 := wrap64 (by omega) (by omega)
    have w2 : IntKind.wrap .i64 (c + 1 + 1) = c + 2 := by rw [wrap64 (by omega) (by omega)]; omega
    have w3 : IntKind.wrap .i64 (c + 2 + 1) = c + 3 := by rw [wrap64 (by omega) (by omega)]; omega
    have w4 : IntKind.wrap .i64 (c + 3 + 1) = c + 4 := by rw [wrap64 (by omega) (by omega)]; omega
    have w5 : IntKind.wrap .i64 (c + 4 + 2 * (y.2.2.2.2.1.length : Int) + 3 * (y.2.2.2.2.2.1.length : Int) + 1) = c + 4 + 2 * (y.2.2.2.2.1.length : Int) + 3 * (y.2.2.2.2.2.1.length : Int) + 1 := wrap64 (by omega) (by omega)
    have w6 : IntKind.wrap .i64 (c + 4 + 2 * (y.2.2.2.2.1.length : Int) + 3 * (y.2.2.2.2.2.1.length : Int) + 1 + 1) = c + cntT1 y := by rw [wrap64 (by omega) (by omega)]; omega
    have w7 : IntKind.wrap .i64 ((pre.length : Int) + 1) = ((pre.length + 1 : Nat) : Int) := wrap_succ (by omega)
    have hp : (0 : Int) ≤ (pre.length : Int) := Int.natCast_nonneg _
    have hj' := hj k
    rw [List.length_append, List.length_singleton, List.append_assoc, List.singleton_append, List.append_assoc, List.singleton_append] at hj'
    simp only [loopK, n41n_b0, hlt, decide_true, cond_true, hp, and_self, if_true, Int.toNat_natCast, set_mid, getD_mid, n41n_j5000005, n41n_j5000007, n41n_j5000009, n41n_j5000011,
      n41n_j5000015, n41n_j5000017, n41n_j5000003, w1, w2, w3, w4, w7,
      markRangeS_vo_at hy1 (show 0 ≤ c + 4 by omega) (show c + 4 + 2 * (y.2.2.2.2.1.length : Int) ≤ 9000000 by omega),
      markWriteS_vo_at hy2 (show 0 ≤ c + 4 + 2 * (y.2.2.2.2.1.length : Int) by omega) (show c + 4 + 2 * (y.2.2.2.2.1.length : Int) + 3 * (y.2.2.2.2.2.1.length : Int) ≤ 9000000 by omega), w5,
      markText_is (show c + 4 + 2 * (y.2.2.2.2.1.length : Int) + 3 * (y.2.2.2.2.2.1.length : Int) + 1 ≤ 10000000 by omega), w6, Sum.elim_inl]
    refine Eq.trans (b := loopK n41n_b0 q (c + cntT1 y, ((pre.length + 1 : Nat) : Int), pre ++ markT1 c y :: l) k) rfl ?_
    rw [hj']
    simp only [markT, cntT]
    congr 2
    omega

theorem markTxnS_vd_at {l : List tTxn.D} (hw : ∀ y ∈ l, y.2.2.2.2.1.length ≤ 1048576 ∧ y.2.2.2.2.2.1.length ≤ 1048576) (hl : l.length ≤ 1048576) {c : Int} (h0 : 0 ≤ c) (hc : c + cntT l ≤ 9000000) (k) :
    n41n_k c l k = k (c + cntT l, markT c l) := by
  rw [n41n_e]
  unfold n41n_d
  obtain ⟨j, hj⟩ := markTxnS_loop l [] c Fuel hw h0 hc (by simpa using hl) (by have := fuel_big; omega)
  simp only [List.length_nil, List.nil_append] at hj
  rw [show ((0 : Int)) = ((0 : Nat) : Int) from rfl, hj]

end
end Go.VE
