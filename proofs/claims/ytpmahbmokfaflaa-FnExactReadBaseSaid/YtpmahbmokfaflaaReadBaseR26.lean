/- Plain laws: what is marked in versions, transactions, bases and engines is held. -/
import Derived.Test.YtpmahbmokfaflaaReadBaseR25
namespace Go.VE
noncomputable section
set_option linter.unusedVariables false
set_option linter.unusedSimpArgs false
set_option maxRecDepth 100000
def vtq : Int → List tVersion.D → List tVersion.D
  | _, [] => []
  | c, y :: l => (vmv c, (vmv (c + 1), ((c + 2).tmod 3 == 0, c + 3))) :: vtq (c + 4) l
theorem vvh : ∀ (c : Int) (l : List tVersion.D), (vtq c l).length = l.length
  | _, [] => rfl
  | c, y :: l => by simp [vtq, vvh (c + 4) l]
theorem vh2 : ∀ (l pre : List tVersion.D) (c : Int) (q : Nat), 0 ≤ c → c + 4 * l.length ≤ 9000000 → pre.length + l.length ≤ 1048576 → l.length < q →
    ∃ j : Int, ∀ k, vai vlu q (c, (pre.length : Int), pre ++ l) k = k (c + 4 * l.length, j, pre ++ vtq c l)
  | [], pre, c, q, h0, hc, hl, hq => by
    obtain ⟨q, rfl⟩ : ∃ r, q = r + 1 := ⟨q - 1, by omega⟩
    refine ⟨pre.length, fun k => ?_⟩
    simp only [vai, vlu, List.append_nil, Int.lt_irrefl, decide_false, cond_false, Sum.elim_inr, List.length_nil, vtq]
    simp
  | y :: l, pre, c, q, h0, hc, hl, hq => by
    obtain ⟨q, rfl⟩ : ∃ r, q = r + 1 := ⟨q - 1, by omega⟩
    simp only [List.length_cons] at hc hl hq
    obtain ⟨j, hj⟩ := vh2 l (pre ++ [(vmv c, (vmv (c + 1), ((c + 2).tmod 3 == 0, c + 3)))]) (c + 4) q (by omega) (by omega) (by rw [List.length_append, List.length_singleton]; omega) (by omega)
    refine ⟨j, fun k => ?_⟩
    have hlt : ∀ v : tVersion.D, (pre.length : Int) < ((pre ++ v :: l).length : Int) := fun v => by rw [List.length_append, List.length_cons]; omega
    have w1 : IntKind.wrap .i64 (c + 1) = c + 1 := vax (by omega) (by omega)
    have w2 : IntKind.wrap .i64 (c + 1 + 1) = c + 2 := by rw [vax (by omega) (by omega)]; omega
    have w3 : IntKind.wrap .i64 (c + 2 + 1) = c + 3 := by rw [vax (by omega) (by omega)]; omega
    have w4 : IntKind.wrap .i64 (c + 3 + 1) = c + 4 := by rw [vax (by omega) (by omega)]; omega
    have w5 : IntKind.wrap .i64 ((pre.length : Int) + 1) = ((pre.length + 1 : Nat) : Int) := vbl (by omega)
    have hp : (0 : Int) ≤ (pre.length : Int) := Int.natCast_nonneg _
    have hj' := hj k
    rw [List.length_append, List.length_singleton, List.append_assoc, List.singleton_append, List.append_assoc, List.singleton_append] at hj'
    simp only [vai, vlu, hlt, decide_true, cond_true, vbw (show c ≤ 10000000 by omega), w1, vbw (show c + 1 ≤ 10000000 by omega), Int.toNat_natCast, v3y, vv2, hp, and_self, if_true, w2, w3, w4, w5, Sum.elim_inl]
    refine Eq.trans (b := vai vlu q (c + 4, ((pre.length + 1 : Nat) : Int), pre ++ (vmv c, (vmv (c + 1), ((c + 2).tmod 3 == 0, c + 3))) :: l) k) rfl ?_
    rw [hj']
    simp only [vtq, List.length_cons]
    congr 2
    push_cast
    omega
theorem vrr {l : List tVersion.D} (hl : l.length ≤ 1048576) {c : Int} (h0 : 0 ≤ c) (hc : c + 4 * l.length ≤ 9000000) (k) : v1o c l k = k (c + 4 * l.length, vtq c l) := by
  rw [wk1]
  unfold we0
  obtain ⟨j, hj⟩ := vh2 l [] c Fuel h0 hc (by simpa using hl) (by have := vbq; omega)
  simp only [List.length_nil, List.nil_append] at hj
  rw [show ((0 : Int)) = ((0 : Nat) : Int) from rfl, hj]
theorem vj6 {u0 u2} : ∀ (l : List tVersion.D) (c : Int) (i : Nat), 0 ≤ c → c + 4 * l.length ≤ 9000000 → ∃ j : Int, ∀ k, vkx u0 u2 (vtq c l) c i k = k (.inr (c + 4 * l.length, j))
  | [], c, i, _, _ => ⟨_, fun k => by simp only [vtq, vkx, List.length_nil]; simp; rfl⟩
  | y :: l, c, i, h0, hc => by
    simp only [List.length_cons] at hc
    obtain ⟨j, hj⟩ := vj6 (u0 := u0) (u2 := u2) l (c + 4) (i + 1) (by omega) (by omega)
    have w1 : IntKind.wrap .i64 (c + 1) = c + 1 := vax (by omega) (by omega)
    have w2 : IntKind.wrap .i64 (c + 1 + 1) = c + 2 := by rw [vax (by omega) (by omega)]; omega
    have w3 : IntKind.wrap .i64 (c + 2 + 1) = c + 3 := by rw [vax (by omega) (by omega)]; omega
    have w4 : IntKind.wrap .i64 (c + 3 + 1) = c + 4 := by rw [vax (by omega) (by omega)]; omega
    refine ⟨j, fun k => ?_⟩
    simp only [vtq, vkx, vbw (show c ≤ 10000000 by omega), w1, vbw (show c + 1 ≤ 10000000 by omega), vdp, Bool.not_true, cond_false, w2, w3, w4, beq_self_eq_true, bne_self_eq_false, hj, List.length_cons]
    congr 3
    push_cast
    omega
theorem vyb {l : List tVersion.D} (hl : l.length ≤ 1048576) {c : Int} (h0 : 0 ≤ c) (hc : c + 4 * l.length ≤ 9000000) (k) : vwf (vtq c l) c k = k (c + 4 * (l.length : Int)) := by
  rw [wxs (by rw [vvh]; omega)]
  unfold wi7
  obtain ⟨j, hj⟩ := vj6 (u0 := vtq c l) (u2 := 0) l c 0 h0 hc
  rw [hj]; rfl
theorem v21 {l : List tRange.D} (hl : l.length ≤ 1048576) {c : Int} (h0 : 0 ≤ c) (hc : c + 2 * l.length ≤ 9000000) (k) : vvl (vul c l) c k = k (c + 2 * (l.length : Int)) := by
  rw [wzb (by rw [vuw]; omega)]
  unfold wjw
  obtain ⟨j, hj⟩ := vnj (u0 := vul c l) (u2 := 0) l c 0 h0 hc
  rw [hj]; rfl
theorem v28 {l : List tWrite.D} (hl : l.length ≤ 1048576) {c : Int} (h0 : 0 ≤ c) (hc : c + 3 * l.length ≤ 9000000) (k) : vvk (vuk c l) c k = k (c + 3 * (l.length : Int)) := by
  rw [w1x (by rw [vvb]; omega)]
  unfold whv
  obtain ⟨j, hj⟩ := vno (u0 := vuk c l) (u2 := 0) l c 0 h0 hc
  rw [hj]; rfl
theorem vsv {u0 u2} : ∀ (l : List tTxn.D) (c : Int) (i : Nat), (∀ y ∈ l, y.2.2.2.2.1.length ≤ 1048576 ∧ y.2.2.2.2.2.1.length ≤ 1048576) → 0 ≤ c → c + cntT l ≤ 9000000 → ∃ j : Int, ∀ k, vk2 u0 u2 (vr9 c l) c i k = k (.inr (c + cntT l, j))
  | [], c, i, _, _, _ => ⟨_, fun k => by simp only [vr9, vk2, cntT]; simp; rfl⟩
  | y :: l, c, i, hw, h0, hc => by
    obtain ⟨hy1, hy2⟩ := hw y (by simp)
    have hp1 := vh9 l
    simp only [cntT] at hc
    have hcy : vuh y = 6 + 2 * (y.2.2.2.2.1.length : Int) + 3 * (y.2.2.2.2.2.1.length : Int) := rfl
    obtain ⟨j, hj⟩ := vsv (u0 := u0) (u2 := u2) l (c + vuh y) (i + 1) (fun z hz => hw z (by simp [hz])) (by omega) (by omega)
    have w1 : IntKind.wrap .i64 (c + 1) = c + 1 := vax (by omega) (by omega)
    have w2 : IntKind.wrap .i64 (c + 1 + 1) = c + 2 := by rw [vax (by omega) (by omega)]; omega
    have w3 : IntKind.wrap .i64 (c + 2 + 1) = c + 3 := by rw [vax (by omega) (by omega)]; omega
    have w4 : IntKind.wrap .i64 (c + 3 + 1) = c + 4 := by rw [vax (by omega) (by omega)]; omega
    have w5 : IntKind.wrap .i64 (c + 4 + 2 * (y.2.2.2.2.1.length : Int) + 3 * (y.2.2.2.2.2.1.length : Int) + 1) = c + 4 + 2 * (y.2.2.2.2.1.length : Int) + 3 * (y.2.2.2.2.2.1.length : Int) + 1 := vax (by omega) (by omega)
    have w6 : IntKind.wrap .i64 (c + 4 + 2 * (y.2.2.2.2.1.length : Int) + 3 * (y.2.2.2.2.2.1.length : Int) + 1 + 1) = c + vuh y := by rw [vax (by omega) (by omega)]; omega
    have n1 : decide (c + 4 + 2 * (y.2.2.2.2.1.length : Int) < 0) = false := decide_eq_false (by omega)
    have n2 : decide (c + 4 + 2 * (y.2.2.2.2.1.length : Int) + 3 * (y.2.2.2.2.2.1.length : Int) < 0) = false := decide_eq_false (by omega)
    refine ⟨j, fun k => ?_⟩
    simp only [vr9, we9, vk2, w1, w2, w3, w4, bne_self_eq_false, cond_false, v21 hy1 (show 0 ≤ c + 4 by omega) (show c + 4 + 2 * (y.2.2.2.2.1.length : Int) ≤ 9000000 by omega), n1,
      v28 hy2 (show 0 ≤ c + 4 + 2 * (y.2.2.2.2.1.length : Int) by omega) (show c + 4 + 2 * (y.2.2.2.2.1.length : Int) + 3 * (y.2.2.2.2.2.1.length : Int) ≤ 9000000 by omega), n2, beq_self_eq_true, Bool.not_true, w5,
      vbw (show c + 4 + 2 * (y.2.2.2.2.1.length : Int) + 3 * (y.2.2.2.2.2.1.length : Int) + 1 ≤ 10000000 by omega), vdp, w6, hj, cntT]
    congr 3
    omega
theorem vyg {l : List tTxn.D} (hw : ∀ y ∈ l, y.2.2.2.2.1.length ≤ 1048576 ∧ y.2.2.2.2.2.1.length ≤ 1048576) (hl : l.length ≤ 1048576) {c : Int} (h0 : 0 ≤ c) (hc : c + cntT l ≤ 9000000) (k) :
    vuz (vr9 c l) c k = k (c + cntT l) := by
  rw [w05 (by rw [vup]; omega)]
  unfold wkv
  obtain ⟨j, hj⟩ := vsv (u0 := vr9 c l) (u2 := 0) l c 0 hw h0 hc
  rw [hj]; rfl
/-- A list of transactions small enough to be marked. -/
def OkTs (l : List tTxn.D) : Prop := (∀ y ∈ l, y.2.2.2.2.1.length ≤ 1048576 ∧ y.2.2.2.2.2.1.length ≤ 1048576) ∧ l.length ≤ 1048576
theorem whc {l : List tTxn.D} (h : (Ty.slice tTxn).wt l ≤ 1048576) : OkTs l :=
  ⟨fun y hy => by
    have := vch hy h
    rw [v9m] at this
    exact ⟨vd3 (T := tRange) (by omega), vd3 (T := tWrite) (by omega)⟩, vd3 h⟩
theorem wkh {l : List tTxn.D} : cntT l ≤ 6 * ((Ty.slice tTxn).wt l : Nat) := by
  have := wmi l
  rw [Ty.wt_slice]; exact this
/-- How many marks a base takes. -/
def cntB (b : tBase.D) : Int := 4 * (b.1.length : Int) + cntT b.2.1 + cntT b.2.2.1
def OkBs (b : tBase.D) : Prop := b.1.length ≤ 1048576 ∧ OkTs b.2.1 ∧ OkTs b.2.2.1
def vsl (c : Int) (b : tBase.D) : tBase.D := (vtq c b.1, (vr9 (c + 4 * b.1.length) b.2.1, (vr9 (c + 4 * b.1.length + cntT b.2.1) b.2.2.1, b.2.2.2)))
theorem wrc (b : tBase.D) : 0 ≤ cntB b := by unfold cntB; have := vh9 b.2.1; have := vh9 b.2.2.1; omega
theorem wka {b : tBase.D} (h : tBase.wt b ≤ 1048576) : OkBs b := by
  rw [v55] at h
  exact ⟨vd3 (T := tVersion) (by omega), whc (by omega), whc (by omega)⟩
theorem wu9 (b : tBase.D) : cntB b ≤ 6 * (tBase.wt b : Nat) := by
  have h1 := wkh (l := b.2.1)
  have h2 := wkh (l := b.2.2.1)
  have h3 : (Ty.slice tVersion).wt b.1 = b.1.length + wtL tVersion b.1 := Ty.wt_slice _ _
  have h4 := v55 b
  unfold cntB
  omega
theorem v8i {b : tBase.D} (hb : OkBs b) {c : Int} (h0 : 0 ≤ c) (hc : c + cntB b ≤ 9000000) (a0 a1 : Int) (k) :
    vu3 a0 a1 c b.1 b.2.1 b.2.2.1 k = k (c + cntB b, (vsl c b).1, (vsl c b).2.1, (vsl c b).2.2.1) := by
  obtain ⟨hb1, hb2, hb3⟩ := hb
  have p1 := vh9 b.2.1
  have p2 := vh9 b.2.2.1
  have hcb : cntB b = 4 * (b.1.length : Int) + cntT b.2.1 + cntT b.2.2.1 := rfl
  rw [wke]
  unfold wfy
  simp only [vrr hb1 h0 (by omega), voz hb2.1 hb2.2 (show 0 ≤ c + 4 * (b.1.length : Int) by omega) (by omega), voz hb3.1 hb3.2 (show 0 ≤ c + 4 * (b.1.length : Int) + cntT b.2.1 by omega) (by omega), vsl]
  congr 2
  omega
theorem wae {b : tBase.D} (hb : OkBs b) {c : Int} (h0 : 0 ≤ c) (hc : c + cntB b ≤ 9000000) (z : Int × Int) (k) :
    vr3 ((vsl c b).1, ((vsl c b).2.1, ((vsl c b).2.2.1, z))) c k = k (c + cntB b) := by
  obtain ⟨hb1, hb2, hb3⟩ := hb
  have p1 := vh9 b.2.1
  have p2 := vh9 b.2.2.1
  have hcb : cntB b = 4 * (b.1.length : Int) + cntT b.2.1 + cntT b.2.2.1 := rfl
  have n1 : decide (c + 4 * (b.1.length : Int) < 0) = false := decide_eq_false (by omega)
  have n2 : decide (c + 4 * (b.1.length : Int) + cntT b.2.1 < 0) = false := decide_eq_false (by omega)
  have n3 : decide (c + 4 * (b.1.length : Int) + cntT b.2.1 + cntT b.2.2.1 < 0) = false := decide_eq_false (by omega)
  rw [wm5]
  unfold wb7
  simp only [vsl, vyb hb1 h0 (by omega), n1, cond_false, vyg hb2.1 hb2.2 (show 0 ≤ c + 4 * (b.1.length : Int) by omega) (by omega), n2, vyg hb3.1 hb3.2 (show 0 ≤ c + 4 * (b.1.length : Int) + cntT b.2.1 by omega) (by omega), n3]
  congr 1
  omega
end
end Go.VE
