/- Plain laws: what is marked in versions, transactions, bases and engines is held. -/
import Derived.Test.YteolgjmeigifbaaBeginR25
namespace Go.VE
noncomputable section
set_option linter.unusedVariables false
set_option linter.unusedSimpArgs false
set_option maxRecDepth 100000
def vr6 : Int → List tVersion.D → List tVersion.D
  | _, [] => []
  | c, y :: l => (vmo c, (vmo (c + 1), ((c + 2).tmod 3 == 0, c + 3))) :: vr6 (c + 4) l
theorem vth : ∀ (c : Int) (l : List tVersion.D), (vr6 c l).length = l.length
  | _, [] => rfl
  | c, y :: l => by simp [vr6, vth (c + 4) l]
theorem vg6 : ∀ (l pre : List tVersion.D) (c : Int) (q : Nat), 0 ≤ c → c + 4 * l.length ≤ 9000000 → pre.length + l.length ≤ 1048576 → l.length < q →
    ∃ j : Int, ∀ k, vah vjt q (c, (pre.length : Int), pre ++ l) k = k (c + 4 * l.length, j, pre ++ vr6 c l)
  | [], pre, c, q, h0, hc, hl, hq => by
    obtain ⟨q, rfl⟩ : ∃ r, q = r + 1 := ⟨q - 1, by omega⟩
    refine ⟨pre.length, fun k => ?_⟩
    simp only [vah, vjt, List.append_nil, Int.lt_irrefl, decide_false, cond_false, Sum.elim_inr, List.length_nil, vr6]
    simp
  | y :: l, pre, c, q, h0, hc, hl, hq => by
    obtain ⟨q, rfl⟩ : ∃ r, q = r + 1 := ⟨q - 1, by omega⟩
    simp only [List.length_cons] at hc hl hq
    obtain ⟨j, hj⟩ := vg6 l (pre ++ [(vmo c, (vmo (c + 1), ((c + 2).tmod 3 == 0, c + 3)))]) (c + 4) q (by omega) (by omega) (by rw [List.length_append, List.length_singleton]; omega) (by omega)
    refine ⟨j, fun k => ?_⟩
    have hlt : ∀ v : tVersion.D, (pre.length : Int) < ((pre ++ v :: l).length : Int) := fun v => by rw [List.length_append, List.length_cons]; omega
    have w1 : IntKind.wrap .i64 (c + 1) = c + 1 := vbb (by omega) (by omega)
    have w2 : IntKind.wrap .i64 (c + 1 + 1) = c + 2 := by rw [vbb (by omega) (by omega)]; omega
    have w3 : IntKind.wrap .i64 (c + 2 + 1) = c + 3 := by rw [vbb (by omega) (by omega)]; omega
    have w4 : IntKind.wrap .i64 (c + 3 + 1) = c + 4 := by rw [vbb (by omega) (by omega)]; omega
    have w5 : IntKind.wrap .i64 ((pre.length : Int) + 1) = ((pre.length + 1 : Nat) : Int) := vgw (by omega)
    have hp : (0 : Int) ≤ (pre.length : Int) := Int.natCast_nonneg _
    have hj' := hj k
    rw [List.length_append, List.length_singleton, List.append_assoc, List.singleton_append, List.append_assoc, List.singleton_append] at hj'
    simp only [vah, vjt, hlt, decide_true, cond_true, vbs (show c ≤ 10000000 by omega), w1, vbs (show c + 1 ≤ 10000000 by omega), Int.toNat_natCast, v2i, vuh, hp, and_self, if_true, w2, w3, w4, w5, Sum.elim_inl]
    refine Eq.trans (b := vah vjt q (c + 4, ((pre.length + 1 : Nat) : Int), pre ++ (vmo c, (vmo (c + 1), ((c + 2).tmod 3 == 0, c + 3))) :: l) k) rfl ?_
    rw [hj']
    simp only [vr6, List.length_cons]
    congr 2
    push_cast
    omega
theorem vqr {l : List tVersion.D} (hl : l.length ≤ 1048576) {c : Int} (h0 : 0 ≤ c) (hc : c + 4 * l.length ≤ 9000000) (k) : vzv c l k = k (c + 4 * l.length, vr6 c l) := by
  rw [wke]
  unfold wcc
  obtain ⟨j, hj⟩ := vg6 l [] c Fuel h0 hc (by simpa using hl) (by have := vei; omega)
  simp only [List.length_nil, List.nil_append] at hj
  rw [show ((0 : Int)) = ((0 : Nat) : Int) from rfl, hj]
theorem vjc {u0 u2} : ∀ (l : List tVersion.D) (c : Int) (i : Nat), 0 ≤ c → c + 4 * l.length ≤ 9000000 → ∃ j : Int, ∀ k, vj7 u0 u2 (vr6 c l) c i k = k (.inr (c + 4 * l.length, j))
  | [], c, i, _, _ => ⟨_, fun k => by simp only [vr6, vj7, List.length_nil]; simp; rfl⟩
  | y :: l, c, i, h0, hc => by
    simp only [List.length_cons] at hc
    obtain ⟨j, hj⟩ := vjc (u0 := u0) (u2 := u2) l (c + 4) (i + 1) (by omega) (by omega)
    have w1 : IntKind.wrap .i64 (c + 1) = c + 1 := vbb (by omega) (by omega)
    have w2 : IntKind.wrap .i64 (c + 1 + 1) = c + 2 := by rw [vbb (by omega) (by omega)]; omega
    have w3 : IntKind.wrap .i64 (c + 2 + 1) = c + 3 := by rw [vbb (by omega) (by omega)]; omega
    have w4 : IntKind.wrap .i64 (c + 3 + 1) = c + 4 := by rw [vbb (by omega) (by omega)]; omega
    refine ⟨j, fun k => ?_⟩
    simp only [vr6, vj7, vbs (show c ≤ 10000000 by omega), w1, vbs (show c + 1 ≤ 10000000 by omega), vct, Bool.not_true, cond_false, w2, w3, w4, beq_self_eq_true, bne_self_eq_false, hj, List.length_cons]
    congr 3
    push_cast
    omega
theorem vw7 {l : List tVersion.D} (hl : l.length ≤ 1048576) {c : Int} (h0 : 0 ≤ c) (hc : c + 4 * l.length ≤ 9000000) (k) : vvt (vr6 c l) c k = k (c + 4 * (l.length : Int)) := by
  rw [wyo (by rw [vth]; omega)]
  unfold wg6
  obtain ⟨j, hj⟩ := vjc (u0 := vr6 c l) (u2 := 0) l c 0 h0 hc
  rw [hj]; rfl
theorem v2x {l : List tRange.D} (hl : l.length ≤ 1048576) {c : Int} (h0 : 0 ≤ c) (hc : c + 2 * l.length ≤ 9000000) (k) : vtr (vs8 c l) c k = k (c + 2 * (l.length : Int)) := by
  rw [w0e (by rw [vtz]; omega)]
  unfold wme
  obtain ⟨j, hj⟩ := vlo (u0 := vs8 c l) (u2 := 0) l c 0 h0 hc
  rw [hj]; rfl
theorem v1w {l : List tWrite.D} (hl : l.length ≤ 1048576) {c : Int} (h0 : 0 ≤ c) (hc : c + 3 * l.length ≤ 9000000) (k) : vtm (vs6 c l) c k = k (c + 3 * (l.length : Int)) := by
  rw [wyd (by rw [vt5]; omega)]
  unfold wi4
  obtain ⟨j, hj⟩ := vl6 (u0 := vs6 c l) (u2 := 0) l c 0 h0 hc
  rw [hj]; rfl
theorem vqf {u0 u2} : ∀ (l : List tTxn.D) (c : Int) (i : Nat), (∀ y ∈ l, y.2.2.2.2.1.length ≤ 1048576 ∧ y.2.2.2.2.2.1.length ≤ 1048576) → 0 ≤ c → c + cntT l ≤ 9000000 → ∃ j : Int, ∀ k, vk6 u0 u2 (vp8 c l) c i k = k (.inr (c + cntT l, j))
  | [], c, i, _, _, _ => ⟨_, fun k => by simp only [vp8, vk6, cntT]; simp; rfl⟩
  | y :: l, c, i, hw, h0, hc => by
    obtain ⟨hy1, hy2⟩ := hw y (by simp)
    have hp1 := vd8 l
    simp only [cntT] at hc
    have hcy : vr0 y = 6 + 2 * (y.2.2.2.2.1.length : Int) + 3 * (y.2.2.2.2.2.1.length : Int) := rfl
    obtain ⟨j, hj⟩ := vqf (u0 := u0) (u2 := u2) l (c + vr0 y) (i + 1) (fun z hz => hw z (by simp [hz])) (by omega) (by omega)
    have w1 : IntKind.wrap .i64 (c + 1) = c + 1 := vbb (by omega) (by omega)
    have w2 : IntKind.wrap .i64 (c + 1 + 1) = c + 2 := by rw [vbb (by omega) (by omega)]; omega
    have w3 : IntKind.wrap .i64 (c + 2 + 1) = c + 3 := by rw [vbb (by omega) (by omega)]; omega
    have w4 : IntKind.wrap .i64 (c + 3 + 1) = c + 4 := by rw [vbb (by omega) (by omega)]; omega
    have w5 : IntKind.wrap .i64 (c + 4 + 2 * (y.2.2.2.2.1.length : Int) + 3 * (y.2.2.2.2.2.1.length : Int) + 1) = c + 4 + 2 * (y.2.2.2.2.1.length : Int) + 3 * (y.2.2.2.2.2.1.length : Int) + 1 := vbb (by omega) (by omega)
    have w6 : IntKind.wrap .i64 (c + 4 + 2 * (y.2.2.2.2.1.length : Int) + 3 * (y.2.2.2.2.2.1.length : Int) + 1 + 1) = c + vr0 y := by rw [vbb (by omega) (by omega)]; omega
    have n1 : decide (c + 4 + 2 * (y.2.2.2.2.1.length : Int) < 0) = false := decide_eq_false (by omega)
    have n2 : decide (c + 4 + 2 * (y.2.2.2.2.1.length : Int) + 3 * (y.2.2.2.2.2.1.length : Int) < 0) = false := decide_eq_false (by omega)
    refine ⟨j, fun k => ?_⟩
    simp only [vp8, wbu, vk6, w1, w2, w3, w4, bne_self_eq_false, cond_false, v2x hy1 (show 0 ≤ c + 4 by omega) (show c + 4 + 2 * (y.2.2.2.2.1.length : Int) ≤ 9000000 by omega), n1,
      v1w hy2 (show 0 ≤ c + 4 + 2 * (y.2.2.2.2.1.length : Int) by omega) (show c + 4 + 2 * (y.2.2.2.2.1.length : Int) + 3 * (y.2.2.2.2.2.1.length : Int) ≤ 9000000 by omega), n2, beq_self_eq_true, Bool.not_true, w5,
      vbs (show c + 4 + 2 * (y.2.2.2.2.1.length : Int) + 3 * (y.2.2.2.2.2.1.length : Int) + 1 ≤ 10000000 by omega), vct, w6, hj, cntT]
    congr 3
    omega
theorem vpk {l : List tTxn.D} (hw : ∀ y ∈ l, y.2.2.2.2.1.length ≤ 1048576 ∧ y.2.2.2.2.2.1.length ≤ 1048576) (hl : l.length ≤ 1048576) {c : Int} (h0 : 0 ≤ c) (hc : c + cntT l ≤ 9000000) (k) :
    vre (vp8 c l) c k = k (c + cntT l) := by
  rw [wx1 (by rw [vt0]; omega)]
  unfold wfx
  obtain ⟨j, hj⟩ := vqf (u0 := vp8 c l) (u2 := 0) l c 0 hw h0 hc
  rw [hj]; rfl
/-- A list of transactions small enough to be marked. -/
def OkTs (l : List tTxn.D) : Prop := (∀ y ∈ l, y.2.2.2.2.1.length ≤ 1048576 ∧ y.2.2.2.2.2.1.length ≤ 1048576) ∧ l.length ≤ 1048576
theorem v8f {l : List tTxn.D} (h : (Ty.slice tTxn).wt l ≤ 1048576) : OkTs l :=
  ⟨fun y hy => by
    have := vbt hy h
    rw [v70] at this
    exact ⟨vb1 (T := tRange) (by omega), vb1 (T := tWrite) (by omega)⟩, vb1 h⟩
theorem v7c {l : List tTxn.D} : cntT l ≤ 6 * ((Ty.slice tTxn).wt l : Nat) := by
  have := wkn l
  rw [Ty.wt_slice]; exact this
/-- How many marks a base takes. -/
def cntB (b : tBase.D) : Int := 4 * (b.1.length : Int) + cntT b.2.1 + cntT b.2.2.1
def OkBs (b : tBase.D) : Prop := b.1.length ≤ 1048576 ∧ OkTs b.2.1 ∧ OkTs b.2.2.1
def vqv (c : Int) (b : tBase.D) : tBase.D := (vr6 c b.1, (vp8 (c + 4 * b.1.length) b.2.1, (vp8 (c + 4 * b.1.length + cntT b.2.1) b.2.2.1, b.2.2.2)))
theorem v30 (b : tBase.D) : 0 ≤ cntB b := by unfold cntB; have := vd8 b.2.1; have := vd8 b.2.2.1; omega
theorem wu8 {b : tBase.D} (h : tBase.wt b ≤ 1048576) : OkBs b := by
  rw [vxa] at h
  exact ⟨vb1 (T := tVersion) (by omega), v8f (by omega), v8f (by omega)⟩
theorem wu2 (b : tBase.D) : cntB b ≤ 6 * (tBase.wt b : Nat) := by
  have h1 := v7c (l := b.2.1)
  have h2 := v7c (l := b.2.2.1)
  have h3 : (Ty.slice tVersion).wt b.1 = b.1.length + wtL tVersion b.1 := Ty.wt_slice _ _
  have h4 := vxa b
  unfold cntB
  omega
theorem v7y {b : tBase.D} (hb : OkBs b) {c : Int} (h0 : 0 ≤ c) (hc : c + cntB b ≤ 9000000) (a0 a1 : Int) (k) :
    vzj a0 a1 c b.1 b.2.1 b.2.2.1 k = k (c + cntB b, (vqv c b).1, (vqv c b).2.1, (vqv c b).2.2.1) := by
  obtain ⟨hb1, hb2, hb3⟩ := hb
  have p1 := vd8 b.2.1
  have p2 := vd8 b.2.2.1
  have hcb : cntB b = 4 * (b.1.length : Int) + cntT b.2.1 + cntT b.2.2.1 := rfl
  rw [wf5]
  unfold wau
  simp only [vqr hb1 h0 (by omega), vin hb2.1 hb2.2 (show 0 ≤ c + 4 * (b.1.length : Int) by omega) (by omega), vin hb3.1 hb3.2 (show 0 ≤ c + 4 * (b.1.length : Int) + cntT b.2.1 by omega) (by omega), vqv]
  congr 2
  omega
theorem v80 {b : tBase.D} (hb : OkBs b) {c : Int} (h0 : 0 ≤ c) (hc : c + cntB b ≤ 9000000) (z : Int × Int) (k) :
    v0o ((vqv c b).1, ((vqv c b).2.1, ((vqv c b).2.2.1, z))) c k = k (c + cntB b) := by
  obtain ⟨hb1, hb2, hb3⟩ := hb
  have p1 := vd8 b.2.1
  have p2 := vd8 b.2.2.1
  have hcb : cntB b = 4 * (b.1.length : Int) + cntT b.2.1 + cntT b.2.2.1 := rfl
  have n1 : decide (c + 4 * (b.1.length : Int) < 0) = false := decide_eq_false (by omega)
  have n2 : decide (c + 4 * (b.1.length : Int) + cntT b.2.1 < 0) = false := decide_eq_false (by omega)
  have n3 : decide (c + 4 * (b.1.length : Int) + cntT b.2.1 + cntT b.2.2.1 < 0) = false := decide_eq_false (by omega)
  rw [wma]
  unfold wb5
  simp only [vqv, vw7 hb1 h0 (by omega), n1, cond_false, vpk hb2.1 hb2.2 (show 0 ≤ c + 4 * (b.1.length : Int) by omega) (by omega), n2, vpk hb3.1 hb3.2 (show 0 ≤ c + 4 * (b.1.length : Int) + cntT b.2.1 by omega) (by omega), n3]
  congr 1
  omega
def cntE (e : tEngine.D) : Int := cntB e.1 + cntT e.2
def OkE (e : tEngine.D) : Prop := OkBs e.1 ∧ OkTs e.2
def vv0 (c : Int) (e : tEngine.D) : tEngine.D := (vqv c e.1, vp8 (c + cntB e.1) e.2)
theorem waz {e : tEngine.D} (h : tEngine.wt e ≤ 1048576) : OkE e := by
  rw [vkb] at h
  exact ⟨wu8 (by omega), v8f (by omega)⟩
theorem weq (e : tEngine.D) : 0 ≤ cntE e := by unfold cntE; have := v30 e.1; have := vd8 e.2; omega
theorem wuv (e : tEngine.D) : cntE e ≤ 6 * (tEngine.wt e : Nat) := by
  have h1 := wu2 e.1
  have h2 := v7c (l := e.2)
  have h4 := vkb e
  unfold cntE
  omega
theorem vqh {e : tEngine.D} (hb : OkE e) {c : Int} (h0 : 0 ≤ c) (hc : c + cntE e ≤ 9000000) (a0 a1 : Int) (k) :
    vn3 a0 a1 c e.1.1 e.1.2.1 e.1.2.2.1 e.2 k = k (c + cntE e, (vv0 c e).1.1, (vv0 c e).1.2.1, (vv0 c e).1.2.2.1, (vv0 c e).2) := by
  obtain ⟨hb1, hb2⟩ := hb
  have p1 := v30 e.1
  have p2 := vd8 e.2
  have hcb : cntE e = cntB e.1 + cntT e.2 := rfl
  rw [whh]
  unfold wa6
  simp only [v7y hb1 h0 (by omega), vin hb2.1 hb2.2 (show 0 ≤ c + cntB e.1 by omega) (by omega), vv0]
  congr 2
  omega
theorem v2c {e : tEngine.D} (hb : OkE e) {c : Int} (h0 : 0 ≤ c) (hc : c + cntE e ≤ 9000000) (z : Int × Int) (k) :
    vom (((vv0 c e).1.1, ((vv0 c e).1.2.1, ((vv0 c e).1.2.2.1, z))), (vv0 c e).2) c k = k (c + cntE e) := by
  obtain ⟨hb1, hb2⟩ := hb
  have p1 := v30 e.1
  have p2 := vd8 e.2
  have hcb : cntE e = cntB e.1 + cntT e.2 := rfl
  have n1 : decide (c + cntB e.1 < 0) = false := decide_eq_false (by omega)
  have n2 : decide (c + cntB e.1 + cntT e.2 < 0) = false := decide_eq_false (by omega)
  rw [wjv]
  unfold wc2
  simp only [vv0, v80 hb1 h0 (by omega), n1, cond_false, vpk hb2.1 hb2.2 (show 0 ≤ c + cntB e.1 by omega) (by omega), n2]
  congr 1
  omega
end
end Go.VE
