/- Plain laws: marks of lists of transactions, of bases and engines that own all their slices. -/
import Derived.Test.YteolgjmeigifbaaBeginR11
namespace Go.VE
noncomputable section
set_option linter.unusedVariables false
set_option linter.unusedSimpArgs false
set_option maxRecDepth 100000
theorem vt6 {l : List tRange.D} (hl : l.length ≤ 1048576) {c : Int} (h0 : 0 ≤ c) (hc : c + 2 * l.length ≤ 9000000) (k) : vy8 c l k = k (c + 2 * l.length, vs8 c l) := by
  rw [wh6]
  unfold wbh
  obtain ⟨j, hj⟩ := vl3 l [] c Fuel h0 hc (by simpa using hl) (by have := vei; omega)
  simp only [List.length_nil, List.nil_append] at hj
  rw [show ((0 : Int)) = ((0 : Nat) : Int) from rfl, hj]
theorem vt8 {l : List tWrite.D} (hl : l.length ≤ 1048576) {c : Int} (h0 : 0 ≤ c) (hc : c + 3 * l.length ≤ 9000000) (k) : vzu c l k = k (c + 3 * l.length, vs6 c l) := by
  rw [wj6]
  unfold wc3
  obtain ⟨j, hj⟩ := vmf l [] c Fuel h0 hc (by simpa using hl) (by have := vei; omega)
  simp only [List.length_nil, List.nil_append] at hj
  rw [show ((0 : Int)) = ((0 : Nat) : Int) from rfl, hj]
/-- How many marks one takes. -/
def vr0 (t : tTxn.D) : Int := 6 + 2 * (t.2.2.2.2.1.length : Int) + 3 * (t.2.2.2.2.2.1.length : Int)
def cntT : List tTxn.D → Int
  | [] => 0
  | y :: l => vr0 y + cntT l
def wbu (c : Int) (t : tTxn.D) : tTxn.D :=
  (c, (c + 1, (c + 2, (c + 3, (vs8 (c + 4) t.2.2.2.2.1, (vs6 (c + 4 + 2 * (t.2.2.2.2.1.length : Int)) t.2.2.2.2.2.1,
    ((c + 4 + 2 * (t.2.2.2.2.1.length : Int) + 3 * (t.2.2.2.2.2.1.length : Int)).tmod 3 == 0, vmo (c + 4 + 2 * (t.2.2.2.2.1.length : Int) + 3 * (t.2.2.2.2.2.1.length : Int) + 1))))))))
def vp8 : Int → List tTxn.D → List tTxn.D
  | _, [] => []
  | c, y :: l => wbu c y :: vp8 (c + vr0 y) l
theorem v4f (t : tTxn.D) : 6 ≤ vr0 t := by unfold vr0; omega
theorem vd8 : ∀ l : List tTxn.D, 0 ≤ cntT l
  | [] => Int.le_refl _
  | y :: l => by have := v4f y; have := vd8 l; simp only [cntT]; omega
theorem vt0 : ∀ (c : Int) (l : List tTxn.D), (vp8 c l).length = l.length
  | _, [] => rfl
  | c, y :: l => by simp [vp8, vt0 (c + vr0 y) l]
theorem wkn : ∀ (l : List tTxn.D), cntT l ≤ 6 * (l.length + wtL tTxn l : Nat)
  | [] => by simp [cntT, wtL]
  | y :: l => by
    have h := wkn l
    have hw := v70 y
    have h1 : (Ty.slice tRange).wt y.2.2.2.2.1 = y.2.2.2.2.1.length + wtL tRange y.2.2.2.2.1 := Ty.wt_slice _ _
    have h2 : (Ty.slice tWrite).wt y.2.2.2.2.2.1 = y.2.2.2.2.2.1.length + wtL tWrite y.2.2.2.2.2.1 := Ty.wt_slice _ _
    simp only [cntT, vr0, List.length_cons, wtL]
    push_cast at h ⊢
    omega
theorem vq9 : ∀ (l pre : List tTxn.D) (c : Int) (q : Nat), (∀ y ∈ l, y.2.2.2.2.1.length ≤ 1048576 ∧ y.2.2.2.2.2.1.length ≤ 1048576) → 0 ≤ c → c + cntT l ≤ 9000000 → pre.length + l.length ≤ 1048576 → l.length < q →
    ∃ j : Int, ∀ k, vah vji q (c, (pre.length : Int), pre ++ l) k = k (c + cntT l, j, pre ++ vp8 c l)
  | [], pre, c, q, hw, h0, hc, hl, hq => by
    obtain ⟨q, rfl⟩ : ∃ r, q = r + 1 := ⟨q - 1, by omega⟩
    refine ⟨pre.length, fun k => ?_⟩
    simp only [vah, vji, List.append_nil, Int.lt_irrefl, decide_false, cond_false, Sum.elim_inr, vp8, cntT]
    simp
  | y :: l, pre, c, q, hw, h0, hc, hl, hq => by
    obtain ⟨q, rfl⟩ : ∃ r, q = r + 1 := ⟨q - 1, by omega⟩
    simp only [List.length_cons] at hl hq
    obtain ⟨hy1, hy2⟩ := hw y (by simp)
    have hp1 := vd8 l
    simp only [cntT] at hc
    obtain ⟨j, hj⟩ := vq9 l (pre ++ [wbu c y]) (c + vr0 y) q (fun z hz => hw z (by simp [hz])) (by have := v4f y; omega) (by omega) (by rw [List.length_append, List.length_singleton]; omega) (by omega)
    refine ⟨j, fun k => ?_⟩
    have hlt : ∀ v : tTxn.D, (pre.length : Int) < ((pre ++ v :: l).length : Int) := fun v => by rw [List.length_append, List.length_cons]; omega
    have hcy : vr0 y = 6 + 2 * (y.2.2.2.2.1.length : Int) + 3 * (y.2.2.2.2.2.1.length : Int) := rfl
    have w1 : IntKind.wrap .i64 (c + 1) = c + 1 := vbb (by omega) (by omega)
    have w2 : IntKind.wrap .i64 (c + 1 + 1) = c + 2 := by rw [vbb (by omega) (by omega)]; omega
    have w3 : IntKind.wrap .i64 (c + 2 + 1) = c + 3 := by rw [vbb (by omega) (by omega)]; omega
    have w4 : IntKind.wrap .i64 (c + 3 + 1) = c + 4 := by rw [vbb (by omega) (by omega)]; omega
    have w5 : IntKind.wrap .i64 (c + 4 + 2 * (y.2.2.2.2.1.length : Int) + 3 * (y.2.2.2.2.2.1.length : Int) + 1) = c + 4 + 2 * (y.2.2.2.2.1.length : Int) + 3 * (y.2.2.2.2.2.1.length : Int) + 1 := vbb (by omega) (by omega)
    have w6 : IntKind.wrap .i64 (c + 4 + 2 * (y.2.2.2.2.1.length : Int) + 3 * (y.2.2.2.2.2.1.length : Int) + 1 + 1) = c + vr0 y := by rw [vbb (by omega) (by omega)]; omega
    have w7 : IntKind.wrap .i64 ((pre.length : Int) + 1) = ((pre.length + 1 : Nat) : Int) := vgw (by omega)
    have hp : (0 : Int) ≤ (pre.length : Int) := Int.natCast_nonneg _
    have hj' := hj k
    rw [List.length_append, List.length_singleton, List.append_assoc, List.singleton_append, List.append_assoc, List.singleton_append] at hj'
    simp only [vah, vji, hlt, decide_true, cond_true, hp, and_self, if_true, Int.toNat_natCast, v2i, vuh, vdu, vdv, vdt, vdq,
      vdl, vdm, vdp, w1, w2, w3, w4, w7,
      vt6 hy1 (show 0 ≤ c + 4 by omega) (show c + 4 + 2 * (y.2.2.2.2.1.length : Int) ≤ 9000000 by omega),
      vt8 hy2 (show 0 ≤ c + 4 + 2 * (y.2.2.2.2.1.length : Int) by omega) (show c + 4 + 2 * (y.2.2.2.2.1.length : Int) + 3 * (y.2.2.2.2.2.1.length : Int) ≤ 9000000 by omega), w5,
      vbs (show c + 4 + 2 * (y.2.2.2.2.1.length : Int) + 3 * (y.2.2.2.2.2.1.length : Int) + 1 ≤ 10000000 by omega), w6, Sum.elim_inl]
    refine Eq.trans (b := vah vji q (c + vr0 y, ((pre.length + 1 : Nat) : Int), pre ++ wbu c y :: l) k) rfl ?_
    rw [hj']
    simp only [vp8, cntT]
    congr 2
    omega
theorem vin {l : List tTxn.D} (hw : ∀ y ∈ l, y.2.2.2.2.1.length ≤ 1048576 ∧ y.2.2.2.2.2.1.length ≤ 1048576) (hl : l.length ≤ 1048576) {c : Int} (h0 : 0 ≤ c) (hc : c + cntT l ≤ 9000000) (k) :
    vtq c l k = k (c + cntT l, vp8 c l) := by
  rw [wly]
  unfold wbs
  obtain ⟨j, hj⟩ := vq9 l [] c Fuel hw h0 hc (by simpa using hl) (by have := vei; omega)
  simp only [List.length_nil, List.nil_append] at hj
  rw [show ((0 : Int)) = ((0 : Nat) : Int) from rfl, hj]
end
end Go.VE
