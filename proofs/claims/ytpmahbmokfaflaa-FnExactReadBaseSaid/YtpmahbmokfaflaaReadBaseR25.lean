/- Plain laws: marks of lists of transactions, of bases and engines that own all their slices. -/
import Derived.Test.YtpmahbmokfaflaaReadBaseR12
namespace Go.VE
noncomputable section
set_option linter.unusedVariables false
set_option linter.unusedSimpArgs false
set_option maxRecDepth 100000
theorem vvn {l : List tRange.D} (hl : l.length ≤ 1048576) {c : Int} (h0 : 0 ≤ c) (hc : c + 2 * l.length ≤ 9000000) (k) : v1x c l k = k (c + 2 * l.length, vul c l) := by
  rw [wmw]
  unfold wd2
  obtain ⟨j, hj⟩ := vnb l [] c Fuel h0 hc (by simpa using hl) (by have := vbq; omega)
  simp only [List.length_nil, List.nil_append] at hj
  rw [show ((0 : Int)) = ((0 : Nat) : Int) from rfl, hj]
theorem vvo {l : List tWrite.D} (hl : l.length ≤ 1048576) {c : Int} (h0 : 0 ≤ c) (hc : c + 3 * l.length ≤ 9000000) (k) : v14 c l k = k (c + 3 * l.length, vuk c l) := by
  rw [wlh]
  unfold wdu
  obtain ⟨j, hj⟩ := vm1 l [] c Fuel h0 hc (by simpa using hl) (by have := vbq; omega)
  simp only [List.length_nil, List.nil_append] at hj
  rw [show ((0 : Int)) = ((0 : Nat) : Int) from rfl, hj]
/-- How many marks one takes. -/
def vuh (t : tTxn.D) : Int := 6 + 2 * (t.2.2.2.2.1.length : Int) + 3 * (t.2.2.2.2.2.1.length : Int)
def cntT : List tTxn.D → Int
  | [] => 0
  | y :: l => vuh y + cntT l
def we9 (c : Int) (t : tTxn.D) : tTxn.D :=
  (c, (c + 1, (c + 2, (c + 3, (vul (c + 4) t.2.2.2.2.1, (vuk (c + 4 + 2 * (t.2.2.2.2.1.length : Int)) t.2.2.2.2.2.1,
    ((c + 4 + 2 * (t.2.2.2.2.1.length : Int) + 3 * (t.2.2.2.2.2.1.length : Int)).tmod 3 == 0, vmv (c + 4 + 2 * (t.2.2.2.2.1.length : Int) + 3 * (t.2.2.2.2.2.1.length : Int) + 1))))))))
def vr9 : Int → List tTxn.D → List tTxn.D
  | _, [] => []
  | c, y :: l => we9 c y :: vr9 (c + vuh y) l
theorem v6m (t : tTxn.D) : 6 ≤ vuh t := by unfold vuh; omega
theorem vh9 : ∀ l : List tTxn.D, 0 ≤ cntT l
  | [] => Int.le_refl _
  | y :: l => by have := v6m y; have := vh9 l; simp only [cntT]; omega
theorem vup : ∀ (c : Int) (l : List tTxn.D), (vr9 c l).length = l.length
  | _, [] => rfl
  | c, y :: l => by simp [vr9, vup (c + vuh y) l]
theorem wmi : ∀ (l : List tTxn.D), cntT l ≤ 6 * (l.length + wtL tTxn l : Nat)
  | [] => by simp [cntT, wtL]
  | y :: l => by
    have h := wmi l
    have hw := v9m y
    have h1 : (Ty.slice tRange).wt y.2.2.2.2.1 = y.2.2.2.2.1.length + wtL tRange y.2.2.2.2.1 := Ty.wt_slice _ _
    have h2 : (Ty.slice tWrite).wt y.2.2.2.2.2.1 = y.2.2.2.2.2.1.length + wtL tWrite y.2.2.2.2.2.1 := Ty.wt_slice _ _
    simp only [cntT, vuh, List.length_cons, wtL]
    push_cast at h ⊢
    omega
theorem vsi : ∀ (l pre : List tTxn.D) (c : Int) (q : Nat), (∀ y ∈ l, y.2.2.2.2.1.length ≤ 1048576 ∧ y.2.2.2.2.2.1.length ≤ 1048576) → 0 ≤ c → c + cntT l ≤ 9000000 → pre.length + l.length ≤ 1048576 → l.length < q →
    ∃ j : Int, ∀ k, vai vll q (c, (pre.length : Int), pre ++ l) k = k (c + cntT l, j, pre ++ vr9 c l)
  | [], pre, c, q, hw, h0, hc, hl, hq => by
    obtain ⟨q, rfl⟩ : ∃ r, q = r + 1 := ⟨q - 1, by omega⟩
    refine ⟨pre.length, fun k => ?_⟩
    simp only [vai, vll, List.append_nil, Int.lt_irrefl, decide_false, cond_false, Sum.elim_inr, vr9, cntT]
    simp
  | y :: l, pre, c, q, hw, h0, hc, hl, hq => by
    obtain ⟨q, rfl⟩ : ∃ r, q = r + 1 := ⟨q - 1, by omega⟩
    simp only [List.length_cons] at hl hq
    obtain ⟨hy1, hy2⟩ := hw y (by simp)
    have hp1 := vh9 l
    simp only [cntT] at hc
    obtain ⟨j, hj⟩ := vsi l (pre ++ [we9 c y]) (c + vuh y) q (fun z hz => hw z (by simp [hz])) (by have := v6m y; omega) (by omega) (by rw [List.length_append, List.length_singleton]; omega) (by omega)
    refine ⟨j, fun k => ?_⟩
    have hlt : ∀ v : tTxn.D, (pre.length : Int) < ((pre ++ v :: l).length : Int) := fun v => by rw [List.length_append, List.length_cons]; omega
    have hcy : vuh y = 6 + 2 * (y.2.2.2.2.1.length : Int) + 3 * (y.2.2.2.2.2.1.length : Int) := rfl
    have w1 : IntKind.wrap .i64 (c + 1) = c + 1 := vax (by omega) (by omega)
    have w2 : IntKind.wrap .i64 (c + 1 + 1) = c + 2 := by rw [vax (by omega) (by omega)]; omega
    have w3 : IntKind.wrap .i64 (c + 2 + 1) = c + 3 := by rw [vax (by omega) (by omega)]; omega
    have w4 : IntKind.wrap .i64 (c + 3 + 1) = c + 4 := by rw [vax (by omega) (by omega)]; omega
    have w5 : IntKind.wrap .i64 (c + 4 + 2 * (y.2.2.2.2.1.length : Int) + 3 * (y.2.2.2.2.2.1.length : Int) + 1) = c + 4 + 2 * (y.2.2.2.2.1.length : Int) + 3 * (y.2.2.2.2.2.1.length : Int) + 1 := vax (by omega) (by omega)
    have w6 : IntKind.wrap .i64 (c + 4 + 2 * (y.2.2.2.2.1.length : Int) + 3 * (y.2.2.2.2.2.1.length : Int) + 1 + 1) = c + vuh y := by rw [vax (by omega) (by omega)]; omega
    have w7 : IntKind.wrap .i64 ((pre.length : Int) + 1) = ((pre.length + 1 : Nat) : Int) := vbl (by omega)
    have hp : (0 : Int) ≤ (pre.length : Int) := Int.natCast_nonneg _
    have hj' := hj k
    rw [List.length_append, List.length_singleton, List.append_assoc, List.singleton_append, List.append_assoc, List.singleton_append] at hj'
    simp only [vai, vll, hlt, decide_true, cond_true, hp, and_self, if_true, Int.toNat_natCast, v3y, vv2, vem, ven, vea, ver,
      ves, vef, vet, w1, w2, w3, w4, w7,
      vvn hy1 (show 0 ≤ c + 4 by omega) (show c + 4 + 2 * (y.2.2.2.2.1.length : Int) ≤ 9000000 by omega),
      vvo hy2 (show 0 ≤ c + 4 + 2 * (y.2.2.2.2.1.length : Int) by omega) (show c + 4 + 2 * (y.2.2.2.2.1.length : Int) + 3 * (y.2.2.2.2.2.1.length : Int) ≤ 9000000 by omega), w5,
      vbw (show c + 4 + 2 * (y.2.2.2.2.1.length : Int) + 3 * (y.2.2.2.2.2.1.length : Int) + 1 ≤ 10000000 by omega), w6, Sum.elim_inl]
    refine Eq.trans (b := vai vll q (c + vuh y, ((pre.length + 1 : Nat) : Int), pre ++ we9 c y :: l) k) rfl ?_
    rw [hj']
    simp only [vr9, cntT]
    congr 2
    omega
theorem voz {l : List tTxn.D} (hw : ∀ y ∈ l, y.2.2.2.2.1.length ≤ 1048576 ∧ y.2.2.2.2.2.1.length ≤ 1048576) (hl : l.length ≤ 1048576) {c : Int} (h0 : 0 ≤ c) (hc : c + cntT l ≤ 9000000) (k) :
    vwa c l k = k (c + cntT l, vr9 c l) := by
  rw [wkz]
  unfold wef
  obtain ⟨j, hj⟩ := vsi l [] c Fuel hw h0 hc (by simpa using hl) (by have := vbq; omega)
  simp only [List.length_nil, List.nil_append] at hj
  rw [show ((0 : Int)) = ((0 : Nat) : Int) from rfl, hj]
end
end Go.VE
