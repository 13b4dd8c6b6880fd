/- Plain laws: what is marked in versions, transactions, bases and engines is held. -/
import Derived.Test.YtpmahbmokfaflaaGetKeyR25
namespace Go.VE
noncomputable section
set_option linter.unusedVariables false
set_option linter.unusedSimpArgs false
set_option maxRecDepth 100000

def markV : Int → List tVersion.D → List tVersion.D
  | _, [] => []
  | c, y :: l => (markB c, (markB (c + 1), ((c + 2).tmod 3 == 0, c + 3))) :: markV (c + 4) l

theorem markV_length : ∀ (c : Int) (l : List tVersion.D), (markV c l).length = l.length
  | _, [] => rfl
  | c, y :: l => by simp [markV, markV_length (c + 4) l]

theorem markVersionS_at_loop : ∀ (l pre : List tVersion.D) (c : Int) (q : Nat), 0 ≤ c → c + 4 * l.length ≤ 9000000 → pre.length + l.length ≤ 1048576 → l.length < q →
    ∃ j : Int, ∀ k, loopK n42n_b0 q (c, (pre.length : Int), pre ++ l) k = k (c + 4 * l.length, j, pre ++ markV c l)
  | [], pre, c, q, h0, hc, hl, hq => by
    obtain ⟨q, rfl⟩ : ∃ r, q = r + 1 := ⟨q - 1, by omega⟩
    refine ⟨pre.length, fun k => ?_⟩
    simp only [loopK, n42n_b0, List.append_nil, Int.lt_irrefl, decide_false, cond_false, Sum.elim_inr, List.length_nil, markV]
    simp
  | y :: l, pre, c, q, h0, hc, hl, hq => by
    obtain ⟨q, rfl⟩ : ∃ r, q = r + 1 := ⟨q - 1, by omega⟩
    simp only [List.length_cons] at hc hl hq
    obtain ⟨j, hj⟩ := markVersionS_at_loop l (pre ++ [(markB c, (markB (c + 1), ((c + 2).tmod 3 == 0, c + 3)))]) (c + 4) q (by omega) (by omega) (by rw [List.length_append, List.length_singleton]; omega) (by omega)
    refine ⟨j, fun k => ?_⟩
    have hlt : ∀ v : tVersion.D, (pre.length : Int) < ((pre ++ v :: l).length : Int) := fun v => by rw [List.length_append, List.length_cons]; omega
    have w1 : IntKind.wrap .i64 (c + 1) = c + 1 := wrap64 (by omega) (by omega)
    have w2 : IntKind.wrap .i64 (c + 1 + 1) = c + 2 := by rw [wrap64 (by omega) (by omega)]; omega
    have w3 : IntKind.wrap .i64 (c + 2 + 1) = c + 3 := by rw [wrap64 (by omega) (by omega)]; omega
    have w4 : IntKind.wrap .i64 (c + 3 + 1) = c + 4 := by rw [wrap64 (by omega) (by omega)]; omega
    have w5 : IntKind.wrap .i64 ((pre.length : Int) + 1) = ((pre.length + 1 : Nat) : Int) := wrap_succ (by omega)
    have hp : (0 : Int) ≤ (pre.length : Int) := Int.natCast_nonneg _
    have hj' := hj k
    rw [List.length_append, List.length_singleton, List.append_assoc, List.singleton_append, List.append_assoc, List.singleton_append] at hj'
    simp only [loopK, n42n_b0, hlt, decide_true, cond_true, markText_is (show c ≤ 10000000 by omega), w1, markText_is (show c + 1 ≤ 10000000 by omega), Int.toNat_natCast, set_mid, getD_mid, hp, and_self, if_true, w2, w3, w4, w5, Sum.elim_inl]
    refine Eq.trans (b := loopK n42n_b0 q (c + 4, ((pre.length + 1 : Nat) : Int), pre ++ (markB c, (markB (c + 1), ((c + 2).tmod 3 == 0, c + 3))) :: l) k) rfl ?_
    rw [hj']
    simp only [markV, List.length_cons]
    congr 2
    push_cast
    omega

theorem markVersionS_vo_at {l : List tVersion.D} (hl : l.length ≤ 1048576) {c : Int} (h0 : 0 ≤ c) (hc : c + 4 * l.length ≤ 9000000) (k) : n42n_k c l k = k (c + 4 * l.length, markV c l) := by
  rw [n42n_e]
  unfold n42n_d
  obtain ⟨j, hj⟩ := markVersionS_at_loop l [] c Fuel h0 hc (by simpa using hl) (by have := fuel_big; omega)
  simp only [List.length_nil, List.nil_append] at hj
  rw [show ((0 : Int)) = ((0 : Nat) : Int) from rfl, hj]

theorem heldVersionS_loop {u0 u2} : ∀ (l : List tVersion.D) (c : Int) (i : Nat), 0 ≤ c → c + 4 * l.length ≤ 9000000 → ∃ j : Int, ∀ k, n35n_w0 u0 u2 (markV c l) c i k = k (.inr (c + 4 * l.length, j))
  | [], c, i, _, _ => ⟨_, fun k => by simp only [markV, n35n_w0, List.length_nil]; simp; rfl⟩
  | y :: l, c, i, h0, hc => by
    simp only [List.length_cons] at hc
    obtain ⟨j, hj⟩ := heldVersionS_loop (u0 := u0) (u2 := u2) l (c + 4) (i + 1) (by omega) (by omega)
    have w1 : IntKind.wrap .i64 (c + 1) = c + 1 := wrap64 (by omega) (by omega)
    have w2 : IntKind.wrap .i64 (c + 1 + 1) = c + 2 := by rw [wrap64 (by omega) (by omega)]; omega
    have w3 : IntKind.wrap .i64 (c + 2 + 1) = c + 3 := by rw [wrap64 (by omega) (by omega)]; omega
    have w4 : IntKind.wrap .i64 (c + 3 + 1) = c + 4 := by rw [wrap64 (by omega) (by omega)]; omega
    refine ⟨j, fun k => ?_⟩
    simp only [markV, n35n_w0, markText_is (show c ≤ 10000000 by omega), w1, markText_is (show c + 1 ≤ 10000000 by omega), strEq_self, Bool.not_true, cond_false, w2, w3, w4, beq_self_eq_true, bne_self_eq_false, hj, List.length_cons]
    congr 3
    push_cast
    omega

theorem heldVersionS_at {l : List tVersion.D} (hl : l.length ≤ 1048576) {c : Int} (h0 : 0 ≤ c) (hc : c + 4 * l.length ≤ 9000000) (k) : n35n_k (markV c l) c k = k (c + 4 * (l.length : Int)) := by
  rw [n35n_r (by rw [markV_length]; omega)]
  unfold n35n_t
  obtain ⟨j, hj⟩ := heldVersionS_loop (u0 := markV c l) (u2 := 0) l c 0 h0 hc
  rw [hj]; rfl

theorem heldRangeS_at {l : List tRange.D} (hl : l.length ≤ 1048576) {c : Int} (h0 : 0 ≤ c) (hc : c + 2 * l.length ≤ 9000000) (k) : n33n_k (markR c l) c k = k (c + 2 * (l.length : Int)) := by
  rw [n33n_r (by rw [markR_length]; omega)]
  unfold n33n_t
  obtain ⟨j, hj⟩ := heldRangeS_loop (u0 := markR c l) (u2 := 0) l c 0 h0 hc
  rw [hj]; rfl

theorem heldWriteS_at {l : List tWrite.D} (hl : l.length ≤ 1048576) {c : Int} (h0 : 0 ≤ c) (hc : c + 3 * l.length ≤ 9000000) (k) : n36n_k (markW c l) c k = k (c + 3 * (l.length : Int)) := by
  rw [n36n_r (by rw [markW_length]; omega)]
  unfold n36n_t
  obtain ⟨j, hj⟩ := heldWriteS_loop (u0 := markW c l) (u2 := 0) l c 0 h0 hc
  rw [hj]; rfl

theorem heldTxnS_loop {u0 u2} : ∀ (l : List tTxn.D) (c : Int) (i : Nat), (∀ y ∈ l, y.2.2.2.2.1.length ≤ 1048576 ∧ y.2.2.2.2.2.1.length ≤ 1048576) → 0 ≤ c → c + cntT l ≤ 9000000 → ∃ j : Int, ∀ k, n34n_w0 u0 u2 (markT c l) c i k = k (.inr (c + cntT l, j))
  | [], c, i, _, _, _ => ⟨_, fun k => by simp only [markT, n34n_w0, cntT]; simp; rfl⟩
  | y :: l, c, i, hw, h0, hc => by
    obtain ⟨hy1, hy2⟩ := hw y (by simp)
    have hp1 := cntT_pos l
    simp only [cntT] at hc
    have hcy : cntT1 y = 6 + 2 * (y.2.2.2.2.1.length : Int) + 3 * (y.2.2.2.2.2.1.length : Int) := rfl
    obtain ⟨j, hj⟩ := heldTxnS_loop (u0 := u0) (u2 := u2) l (c + cntT1 y) (i + 1) (fun z hz => hw z (by simp [hz])) (by omega) (by omega)
    have w1 : IntKind.wrap .i64 (c + 1) = c + 1 := wrap64 (by omega) (by omega)
    have w2 : IntKind.wrap .i64 (c + 1 + 1) = c + 2 := by rw [wrap64 (by omega) (by omega)]; omega
    have w3 : IntKind.wrap .i64 (c + 2 + 1) = c + 3 := by rw [wrap64 (by omega) (by omega)]; omega
    have w4 : IntKind.wrap .i64 (c + 3 + 1) = c + 4 := by rw [wrap64 (by omega) (by omega)]; omega
    have w5 : IntKind.wrap .i64 (c + 4 + 2 * (y.2.2.2.2.1.length : Int) + 3 * (y.2.2.2.2.2.1.length : Int) + 1) = c + 4 + 2 * (y.2.2.2.2.1.length : Int) + 3 * (y.2.2.2.2.2.1.length : Int) + 1 := wrap64 (by omega) (by omega)
    have w6 : IntKind.wrap .i64 (c + 4 + 2 * (y.2.2.2.2.1.length : Int) + 3 * (y.2.2.2.2.2.1.length : Int) + 1 + 1) = c + cntT1 y := by rw [wrap64 (by omega) (by omega)]; omega
    have n1 : decide (c + 4 + 2 * (y.2.2.2.2.1.length : Int) < 0) = false := decide_eq_false (by omega)
    have n2 : decide (c + 4 + 2 * (y.2.2.2.2.1.length : Int) + 3 * (y.2.2.2.2.2.1.length : Int) < 0) = false := decide_eq_false (by omega)
    refine ⟨j, fun k => ?_⟩
    simp only [markT, markT1, n34n_w0, w1, w2, w3, w4, bne_self_eq_false, cond_false, heldRangeS_at hy1 (show 0 ≤ c + 4 by omega) (show c + 4 + 2 * (y.2.2.2.2.1.length : Int) ≤ 9000000 by omega), n1,
      heldWriteS_at hy2 (show 0 ≤ c + 4 + 2 * (y.2.2.2.2.1.length : Int) by omega) (show c + 4 + 2 * (y.2.2.2.2.1.length : Int) + 3 * (y.2.2.2.2.2.1.length : Int) ≤ 9000000 by omega), n2, beq_self_eq_true, Bool.not_true, w5,
      markText_is (show c + 4 + 2 * (y.2.2.2.2.1.length : Int) + 3 * (y.2.2.2.2.2.1.length : Int) + 1 ≤ 10000000 by omega), strEq_self, w6, hj, cntT]
    congr 3
    omega

theorem heldTxnS_at {l : List tTxn.D} (hw : ∀ y ∈ l, y.2.2.2.2.1.length ≤ 1048576 ∧ y.2.2.2.2.2.1.length ≤ 1048576) (hl : l.length ≤ 1048576) {c : Int} (h0 : 0 ≤ c) (hc : c + cntT l ≤ 9000000) (k) :
    n34n_k (markT c l) c k = k (c + cntT l) := by
  rw [n34n_r (by rw [markT_length]; omega)]
  unfold n34n_t
  obtain ⟨j, hj⟩ := heldTxnS_loop (u0 := markT c l) (u2 := 0) l c 0 hw h0 hc
  rw [hj]; rfl

/-- A list of transactions small enough to be marked. -/
def OkTs (l : List tTxn.D) : Prop := (∀ y ∈ l, y.2.2.2.2.1.length ≤ 1048576 ∧ y.2.2.2.2.2.1.length ≤ 1048576) ∧ l.length ≤ 1048576

theorem okTs_wt {l : List tTxn.D} (h : (Ty.slice tTxn).wt l ≤ 1048576) : OkTs l :=
  ⟨fun y hy => by
    have := wt_mem_le hy h
    rw [wtTxn] at this
    exact ⟨len_le (T := tRange) (by omega), len_le (T := tWrite) (by omega)⟩, len_le h⟩

theorem cntT_le {l : List tTxn.D} : cntT l ≤ 6 * ((Ty.slice tTxn).wt l : Nat) := by
  have := cntT_wt l
  rw [Ty.wt_slice]; exact this

/-- How many marks a base takes. -/
def cntB (b : tBase.D) : Int := 4 * (b.1.length : Int) + cntT b.2.1 + cntT b.2.2.1
def OkBs (b : tBase.D) : Prop := b.1.length ≤ 1048576 ∧ OkTs b.2.1 ∧ OkTs b.2.2.1
def markBs (c : Int) (b : tBase.D) : tBase.D := (markV c b.1, (markT (c + 4 * b.1.length) b.2.1, (markT (c + 4 * b.1.length + cntT b.2.1) b.2.2.1, b.2.2.2)))

theorem cntB_pos (b : tBase.D) : 0 ≤ cntB b := by unfold cntB; have := cntT_pos b.2.1; have := cntT_pos b.2.2.1; omega

theorem okBs_wt {b : tBase.D} (h : tBase.wt b ≤ 1048576) : OkBs b := by
  rw [wtBase] at h
  exact ⟨len_le (T := tVersion) (by omega), okTs_wt (by omega), okTs_wt (by omega)⟩

theorem cntB_wt (b : tBase.D) : cntB b ≤ 6 * (tBase.wt b : Nat) := by
  have h1 := cntT_le (l := b.2.1)
  have h2 := cntT_le (l := b.2.2.1)
  have h3 : (Ty.slice tVersion).wt b.1 = b.1.length + wtL tVersion b.1 := Ty.wt_slice _ _
  have h4 := wtBase b
  unfold cntB
  omega

theorem markBase_at {b : tBase.D} (hb : OkBs b) {c : Int} (h0 : 0 ≤ c) (hc : c + cntB b ≤ 9000000) (a0 a1 : Int) (k) :
    n37n_k a0 a1 c b.1 b.2.1 b.2.2.1 k = k (c + cntB b, (markBs c b).1, (markBs c b).2.1, (markBs c b).2.2.1) := by
  obtain ⟨hb1, hb2, hb3⟩ := hb
  have p1 := cntT_pos b.2.1
  have p2 := cntT_pos b.2.2.1
  have hcb : cntB b = 4 * (b.1.length : Int) + cntT b.2.1 + cntT b.2.2.1 := rfl
  rw [n37n_e]
  unfold n37n_d
  simp only [markVersionS_vo_at hb1 h0 (by omega), markTxnS_vd_at hb2.1 hb2.2 (show 0 ≤ c + 4 * (b.1.length : Int) by omega) (by omega), markTxnS_vd_at hb3.1 hb3.2 (show 0 ≤ c + 4 * (b.1.length : Int) + cntT b.2.1 by omega) (by omega), markBs]
  congr 2
  omega

theorem heldBase_at {b : tBase.D} (hb : OkBs b) {c : Int} (h0 : 0 ≤ c) (hc : c + cntB b ≤ 9000000) (z : Int × Int) (k) :
    n31n_k ((markBs c b).1, ((markBs c b).2.1, ((markBs c b).2.2.1, z))) c k = k (c + cntB b) := by
  obtain ⟨hb1, hb2, hb3⟩ := hb
  have p1 := cntT_pos b.2.1
  have p2 := cntT_pos b.2.2.1
  have hcb : cntB b = 4 * (b.1.length : Int) + cntT b.2.1 + cntT b.2.2.1 := rfl
  have n1 : decide (c + 4 * (b.1.length : Int) < 0) = false := decide_eq_false (by omega)
  have n2 : decide (c + 4 * (b.1.length : Int) + cntT b.2.1 < 0) = false := decide_eq_false (by omega)
  have n3 : decide (c + 4 * (b.1.length : Int) + cntT b.2.1 + cntT b.2.2.1 < 0) = false := decide_eq_false (by omega)
  rw [n31n_e]
  unfold n31n_d
  simp only [markBs, heldVersionS_at hb1 h0 (by omega), n1, cond_false, heldTxnS_at hb2.1 hb2.2 (show 0 ≤ c + 4 * (b.1.length : Int) by omega) (by omega), n2, heldTxnS_at hb3.1 hb3.2 (show 0 ≤ c + 4 * (b.1.length : Int) + cntT b.2.1 by omega) (by omega), n3]
  congr 1
  omega

def cntE (e : tEngine.D) : Int := cntB e.1 + cntT e.2
def OkE (e : tEngine.D) : Prop := OkBs e.1 ∧ OkTs e.2
def markE (c : Int) (e : tEngine.D) : tEngine.D := (markBs c e.1, markT (c + cntB e.1) e.2)

theorem okE_wt {e : tEngine.D} (h : tEngine.wt e ≤ 1048576) : OkE e := by
  rw [wtEngine] at h
  exact ⟨okBs_wt (by omega), okTs_wt (by omega)⟩

theorem cntE_pos (e : tEngine.D) : 0 ≤ cntE e := by unfold cntE; have := cntB_pos e.1; have := cntT_pos e.2; omega

theorem cntE_wt (e : tEngine.D) : cntE e ≤ 6 * (tEngine.wt e : Nat) := by
  have h1 := cntB_wt e.1
  have h2 := cntT_le (l := e.2)
  have h4 := wtEngine e
  unfold cntE
  omega

theorem markEngine_at {e : tEngine.D} (hb : OkE e) {c : Int} (h0 : 0 ≤ c) (hc : c + cntE e ≤ 9000000) (a0 a1 : Int) (k) :
    n38n_k a0 a1 c e.1.1 e.1.2.1 e.1.2.2.1 e.2 k = k (c + cntE e, (markE c e).1.1, (markE c e).1.2.1, (markE c e).1.2.2.1, (markE c e).2) := by
  obtain ⟨hb1, hb2⟩ := hb
  have p1 := cntB_pos e.1
  have p2 := cntT_pos e.2
  have hcb : cntE e = cntB e.1 + cntT e.2 := rfl
  rw [n38n_e]
  unfold n38n_d
  simp only [markBase_at hb1 h0 (by omega), markTxnS_vd_at hb2.1 hb2.2 (show 0 ≤ c + cntB e.1 by omega) (by omega), markE]
  congr 2
  omega

theorem heldEngine_at {e : tEngine.D} (hb : OkE e) {c : Int} (h0 : 0 ≤ c) (hc : c + cntE e ≤ 9000000) (z : Int × Int) (k) :
    n32n_k (((markE c e).1.1, ((markE c e).1.2.1, ((markE c e).1.2.2.1, z))), (markE c e).2) c k = k (c + cntE e) := by
  obtain ⟨hb1, hb2⟩ := hb
  have p1 := cntB_pos e.1
  have p2 := cntT_pos e.2
  have hcb : cntE e = cntB e.1 + cntT e.2 := rfl
  have n1 : decide (c + cntB e.1 < 0) = false := decide_eq_false (by omega)
  have n2 : decide (c + cntB e.1 + cntT e.2 < 0) = false := decide_eq_false (by omega)
  rw [n32n_e]
  unfold n32n_d
  simp only [markE, heldBase_at hb1 h0 (by omega), n1, cond_false, heldTxnS_at hb2.1 hb2.2 (show 0 ≤ c + cntB e.1 by omega) (by omega), n2]
  congr 1
  omega

end
end Go.VE
