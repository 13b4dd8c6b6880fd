/- Loops told as recursions over what is left; written by gen.py. -/
import Derived.Test.YtiajamilfgkecaaPutVersionsN
import Derived.Test.YtiajamilfgkecaaP1
namespace Go.VE
noncomputable section
set_option linter.unusedVariables false
set_option linter.unusedSimpArgs false
set_option maxRecDepth 100000
def vh9 (u0 : (List vaa)) (u2 : Int) : List vaa → Int → Nat → (((Int × Int × Int) ⊕ (Int × Int)) → Option Res) → Option Res
  | [], s1, i, k =>
    k (.inr (s1, (i : Int)))
  | y :: l, s1, i, k =>
    vmo y s1 (fun y1 =>
      bif (decide (y1 < (0 : Int))) then
        k (.inl (y1, (-1 : Int), (i : Int)))
      else
        vh9 u0 u2 l y1 (i + 1) k)
theorem vy9 {u0} {u2} (h0 : u0.length < 9223372036854775807) {K : (q5T ⊕ q5T) → Option Res} : ∀ (l : List vaa) (i : Nat) (s1 : Int) (n : Nat), u0.drop i = l → l.length < n → vai vha n (u0, s1, u2, (i : Int)) K = vh9 u0 u2 l s1 i (Sum.elim (fun z => K (.inl (u0, z.1, z.2.1, z.2.2))) (fun z => K (.inr (u0, z.1, u2, z.2)))) := by
  intro l
  induction l with
  | nil =>
    intro i s1 n hd hn
    have hge := vc7 hd
    cases n with
    | zero => exact absurd hn (Nat.not_lt_zero _)
    | succ n => simp only [vai, vha, vh9, hge, decide_false, cond_false, Sum.elim_inr, Sum.elim_inl]
  | cons y l ih =>
    intro i s1 n hd hn
    obtain ⟨hlt, hz, hd2, hw, hnn⟩ := vcu hd h0
    have hy := vcn hd
    cases n with
    | zero => exact absurd hn (Nat.not_lt_zero _)
    | succ n =>
      have ih2 := fun (s1 : Int) => ih (i + 1) s1 n hd2 (Nat.lt_of_succ_lt_succ hn)
      simp only [vai, vha, vh9, hlt, hz, decide_true, cond_true, and_self, if_true, hy, hw, hnn, Sum.elim_inl, Sum.elim_inr, ih2]
theorem vx7 {u0} {u2} (h0 : u0.length < 9223372036854775807) {K : (q5T ⊕ q5T) → Option Res} {s1 : Int} : vai vha Fuel (u0, s1, u2, (0 : Int)) K = vh9 u0 u2 u0 s1 0 (Sum.elim (fun z => K (.inl (u0, z.1, z.2.1, z.2.2))) (fun z => K (.inr (u0, z.1, u2, z.2)))) :=
  vy9 h0 u0 0 s1 Fuel rfl (vdk h0)
def vie (u0 : (List vad)) (u2 : Int) : List vad → Int → Nat → (((Int × Int × Int) ⊕ (Int × Int)) → Option Res) → Option Res
  | [], s1, i, k =>
    k (.inr (s1, (i : Int)))
  | y :: l, s1, i, k =>
    vm2 y s1 (fun y1 =>
      bif (decide (y1 < (0 : Int))) then
        k (.inl (y1, (-1 : Int), (i : Int)))
      else
        vie u0 u2 l y1 (i + 1) k)
theorem vys {u0} {u2} (h0 : u0.length < 9223372036854775807) {K : (q10T ⊕ q10T) → Option Res} : ∀ (l : List vad) (i : Nat) (s1 : Int) (n : Nat), u0.drop i = l → l.length < n → vai vgc n (u0, s1, u2, (i : Int)) K = vie u0 u2 l s1 i (Sum.elim (fun z => K (.inl (u0, z.1, z.2.1, z.2.2))) (fun z => K (.inr (u0, z.1, u2, z.2)))) := by
  intro l
  induction l with
  | nil =>
    intro i s1 n hd hn
    have hge := vc7 hd
    cases n with
    | zero => exact absurd hn (Nat.not_lt_zero _)
    | succ n => simp only [vai, vgc, vie, hge, decide_false, cond_false, Sum.elim_inr, Sum.elim_inl]
  | cons y l ih =>
    intro i s1 n hd hn
    obtain ⟨hlt, hz, hd2, hw, hnn⟩ := vcu hd h0
    have hy := vcn hd
    cases n with
    | zero => exact absurd hn (Nat.not_lt_zero _)
    | succ n =>
      have ih2 := fun (s1 : Int) => ih (i + 1) s1 n hd2 (Nat.lt_of_succ_lt_succ hn)
      simp only [vai, vgc, vie, hlt, hz, decide_true, cond_true, and_self, if_true, hy, hw, hnn, Sum.elim_inl, Sum.elim_inr, ih2]
theorem vzl {u0} {u2} (h0 : u0.length < 9223372036854775807) {K : (q10T ⊕ q10T) → Option Res} {s1 : Int} : vai vgc Fuel (u0, s1, u2, (0 : Int)) K = vie u0 u2 u0 s1 0 (Sum.elim (fun z => K (.inl (u0, z.1, z.2.1, z.2.2))) (fun z => K (.inr (u0, z.1, u2, z.2)))) :=
  vys h0 u0 0 s1 Fuel rfl (vdk h0)
def vee (u0 : (List vaa)) : List vaa → (List vaa) → Nat → ((Int × (List vaa)) → Option Res) → Option Res
  | [], s2, i, k =>
    k ((i : Int), s2)
  | y :: l, s2, i, k =>
    vmu y (fun y1 =>
      if 0 ≤ (i : Int) ∧ (i : Int) < (s2.length : Int) then
        vee u0 l (s2.set (i : Int).toNat y1) (i + 1) k
      else none)
theorem vy3 {u0} (h0 : u0.length < 9223372036854775807) {K : q3T → Option Res} : ∀ (l : List vaa) (i : Nat) (s2 : (List vaa)) (n : Nat), u0.drop i = l → l.length < n → vai vgq n (u0, (i : Int), s2) K = vee u0 l s2 i (fun z => K (u0, z.1, z.2)) := by
  intro l
  induction l with
  | nil =>
    intro i s2 n hd hn
    have hge := vc7 hd
    cases n with
    | zero => exact absurd hn (Nat.not_lt_zero _)
    | succ n => simp only [vai, vgq, vee, hge, decide_false, cond_false, Sum.elim_inr, Sum.elim_inl]
  | cons y l ih =>
    intro i s2 n hd hn
    obtain ⟨hlt, hz, hd2, hw, hnn⟩ := vcu hd h0
    have hy := vcn hd
    cases n with
    | zero => exact absurd hn (Nat.not_lt_zero _)
    | succ n =>
      have ih2 := fun (s2 : (List vaa)) => ih (i + 1) s2 n hd2 (Nat.lt_of_succ_lt_succ hn)
      simp only [vai, vgq, vee, hlt, hz, decide_true, cond_true, and_self, if_true, hy, hw, hnn, Sum.elim_inl, Sum.elim_inr, ih2]
theorem vye {u0} (h0 : u0.length < 9223372036854775807) {K : q3T → Option Res} {s2 : (List vaa)} : vai vgq Fuel (u0, (0 : Int), s2) K = vee u0 u0 s2 0 (fun z => K (u0, z.1, z.2)) :=
  vy3 h0 u0 0 s2 Fuel rfl (vdk h0)
def vw8 (a0 : (List vaa)) (k : (List vaa) → Option Res) : Option Res :=
  if 0 ≤ (a0.length : Int) ∧ (a0.length : Int) ≤ (a0.length : Int) ∧ (a0.length : Int) ≤ (VE.maxLen : Int) then
    vee a0 a0 (List.replicate (a0.length : Int).toNat (Ty.zero tVersion)) 0 (fun z25 =>
      k z25.2)
  else none
theorem v2d {a0 : (List vaa)} (h0 : a0.length < 9223372036854775807) {k : (List vaa) → Option Res} : ves a0 k = vw8 a0 k := by
  rw [vv5]
  simp only [vs8, vw8, (vye h0), Sum.elim_inl, Sum.elim_inr]
def veg (u0 : (List vad)) : List vad → (List vad) → Nat → ((Int × (List vad)) → Option Res) → Option Res
  | [], s2, i, k =>
    k ((i : Int), s2)
  | y :: l, s2, i, k =>
    vmw y (fun y1 =>
      if 0 ≤ (i : Int) ∧ (i : Int) < (s2.length : Int) then
        veg u0 l (s2.set (i : Int).toNat y1) (i + 1) k
      else none)
theorem vyp {u0} (h0 : u0.length < 9223372036854775807) {K : q7T → Option Res} : ∀ (l : List vad) (i : Nat) (s2 : (List vad)) (n : Nat), u0.drop i = l → l.length < n → vai vf7 n (u0, (i : Int), s2) K = veg u0 l s2 i (fun z => K (u0, z.1, z.2)) := by
  intro l
  induction l with
  | nil =>
    intro i s2 n hd hn
    have hge := vc7 hd
    cases n with
    | zero => exact absurd hn (Nat.not_lt_zero _)
    | succ n => simp only [vai, vf7, veg, hge, decide_false, cond_false, Sum.elim_inr, Sum.elim_inl]
  | cons y l ih =>
    intro i s2 n hd hn
    obtain ⟨hlt, hz, hd2, hw, hnn⟩ := vcu hd h0
    have hy := vcn hd
    cases n with
    | zero => exact absurd hn (Nat.not_lt_zero _)
    | succ n =>
      have ih2 := fun (s2 : (List vad)) => ih (i + 1) s2 n hd2 (Nat.lt_of_succ_lt_succ hn)
      simp only [vai, vf7, veg, hlt, hz, decide_true, cond_true, and_self, if_true, hy, hw, hnn, Sum.elim_inl, Sum.elim_inr, ih2]
theorem vzf {u0} (h0 : u0.length < 9223372036854775807) {K : q7T → Option Res} {s2 : (List vad)} : vai vf7 Fuel (u0, (0 : Int), s2) K = veg u0 u0 s2 0 (fun z => K (u0, z.1, z.2)) :=
  vyp h0 u0 0 s2 Fuel rfl (vdk h0)
def vwn (a0 : (List vad)) (k : (List vad) → Option Res) : Option Res :=
  if 0 ≤ (a0.length : Int) ∧ (a0.length : Int) ≤ (a0.length : Int) ∧ (a0.length : Int) ≤ (VE.maxLen : Int) then
    veg a0 a0 (List.replicate (a0.length : Int).toNat (Ty.zero tWrite)) 0 (fun z25 =>
      k z25.2)
  else none
theorem v11 {a0 : (List vad)} (h0 : a0.length < 9223372036854775807) {k : (List vad) → Option Res} : ve9 a0 k = vwn a0 k := by
  rw [vvy]
  simp only [vs5, vwn, (vzf h0), Sum.elim_inl, Sum.elim_inr]
def vgm (u0 : (List vaa)) (u1 : Int) : List vaa → ByteArray → ByteArray → Bool → Int → Nat → (((Int × Int × ByteArray × ByteArray × Bool × Int) ⊕ q14T) → Option Res) → Option Res
  | [], s4, s5, s6, s7, i, k =>
    k (.inr ((i : Int), s4, s5, s6, s7))
  | y :: l, s4, s5, s6, s7, i, k =>
    vqo y s4 s5 s6 s7 (fun y1 =>
      bif y1.1 then
        k (.inl ((i : Int), (i : Int), y1.2.1, y1.2.2.1, y1.2.2.2.1, y1.2.2.2.2))
      else
        vgm u0 u1 l y1.2.1 y1.2.2.1 y1.2.2.2.1 y1.2.2.2.2 (i + 1) k)
theorem vyb {u0} {u1} (h0 : u0.length < 9223372036854775807) {K : (q4T ⊕ q4T) → Option Res} : ∀ (l : List vaa) (i : Nat) (s4 : ByteArray) (s5 : ByteArray) (s6 : Bool) (s7 : Int) (n : Nat), u0.drop i = l → l.length < n → vai vgi n (u0, u1, (u0.length : Int), (i : Int), s4, s5, s6, s7) K = vgm u0 u1 l s4 s5 s6 s7 i (Sum.elim (fun z => K (.inl (u0, z.1, (u0.length : Int), z.2.1, z.2.2.1, z.2.2.2.1, z.2.2.2.2.1, z.2.2.2.2.2))) (fun z => K (.inr (u0, u1, (u0.length : Int), z.1, z.2.1, z.2.2.1, z.2.2.2.1, z.2.2.2.2)))) := by
  intro l
  induction l with
  | nil =>
    intro i s4 s5 s6 s7 n hd hn
    have hge := vc7 hd
    cases n with
    | zero => exact absurd hn (Nat.not_lt_zero _)
    | succ n => simp only [vai, vgi, vgm, hge, decide_false, cond_false, Sum.elim_inr, Sum.elim_inl]
  | cons y l ih =>
    intro i s4 s5 s6 s7 n hd hn
    obtain ⟨hlt, hz, hd2, hw, hnn⟩ := vcu hd h0
    have hy := vcn hd
    cases n with
    | zero => exact absurd hn (Nat.not_lt_zero _)
    | succ n =>
      have ih2 := fun (s4 : ByteArray) (s5 : ByteArray) (s6 : Bool) (s7 : Int) => ih (i + 1) s4 s5 s6 s7 n hd2 (Nat.lt_of_succ_lt_succ hn)
      simp only [vai, vgi, vgm, hlt, hz, decide_true, cond_true, and_self, if_true, hy, hw, hnn, Sum.elim_inl, Sum.elim_inr, ih2]
theorem vx2 {u0} {u1} (h0 : u0.length < 9223372036854775807) {K : (q4T ⊕ q4T) → Option Res} {s4 : ByteArray} {s5 : ByteArray} {s6 : Bool} {s7 : Int} : vai vgi Fuel (u0, u1, (u0.length : Int), (0 : Int), s4, s5, s6, s7) K = vgm u0 u1 u0 s4 s5 s6 s7 0 (Sum.elim (fun z => K (.inl (u0, z.1, (u0.length : Int), z.2.1, z.2.2.1, z.2.2.2.1, z.2.2.2.2.1, z.2.2.2.2.2))) (fun z => K (.inr (u0, u1, (u0.length : Int), z.1, z.2.1, z.2.2.1, z.2.2.2.1, z.2.2.2.2)))) :=
  vyb h0 u0 0 s4 s5 s6 s7 Fuel rfl (vdk h0)
def vwy (a0 : (List vaa)) (a1 : ByteArray) (a2 : ByteArray) (a3 : Bool) (a4 : Int) (k : q14T → Option Res) : Option Res :=
  vgm a0 (0 : Int) a0 a1 a2 a3 a4 0 (Sum.elim (fun z25 =>
    k (z25.1, z25.2.2.1, z25.2.2.2.1, z25.2.2.2.2.1, z25.2.2.2.2.2)) (fun z26 =>
    k ((-1 : Int), z26.2.1, z26.2.2.1, z26.2.2.2.1, z26.2.2.2.2)))
theorem v2f {a0 : (List vaa)} {a1 : ByteArray} {a2 : ByteArray} {a3 : Bool} {a4 : Int} (h0 : a0.length < 9223372036854775807) {k : q14T → Option Res} : vnv a0 a1 a2 a3 a4 k = vwy a0 a1 a2 a3 a4 k := by
  rw [vw1]
  simp only [vsv, vwy, (vx2 h0), Sum.elim_inl, Sum.elim_inr]
def vfq (u0 : Int) (u1 : (List vad)) : List vad → (List vaa) → Nat → ((Int × (List vaa)) → Option Res) → Option Res
  | [], s4, i, k =>
    k ((i : Int), s4)
  | y :: l, s4, i, k =>
    vnv s4 y.1 y.2.1 y.2.2 u0 (fun y1 =>
      bif (decide (y1.1 < (0 : Int))) then
        vj2 (s4.length : Int) s4 [y1.2] (fun y2 =>
          vfq u0 u1 l y2.2 (i + 1) k)
      else
        vj2 y1.1 s4 [y1.2] (fun y3 =>
          vfq u0 u1 l y3.2 (i + 1) k))
theorem vyj {u0} {u1} (h0 : u1.length < 9223372036854775807) {K : q13T → Option Res} : ∀ (l : List vad) (i : Nat) (s4 : (List vaa)) (n : Nat), u1.drop i = l → l.length < n → vai vgd n (u0, u1, (u1.length : Int), (i : Int), s4) K = vfq u0 u1 l s4 i (fun z => K (u0, u1, (u1.length : Int), z.1, z.2)) := by
  intro l
  induction l with
  | nil =>
    intro i s4 n hd hn
    have hge := vc7 hd
    cases n with
    | zero => exact absurd hn (Nat.not_lt_zero _)
    | succ n => simp only [vai, vgd, vfq, hge, decide_false, cond_false, Sum.elim_inr, Sum.elim_inl]
  | cons y l ih =>
    intro i s4 n hd hn
    obtain ⟨hlt, hz, hd2, hw, hnn⟩ := vcu hd h0
    have hy := vcn hd
    cases n with
    | zero => exact absurd hn (Nat.not_lt_zero _)
    | succ n =>
      have ih2 := fun (s4 : (List vaa)) => ih (i + 1) s4 n hd2 (Nat.lt_of_succ_lt_succ hn)
      simp only [vai, vgd, vfq, hlt, hz, decide_true, cond_true, and_self, if_true, hy, hw, hnn, Sum.elim_inl, Sum.elim_inr, ih2]
theorem vy7 {u0} {u1} (h0 : u1.length < 9223372036854775807) {K : q13T → Option Res} {s4 : (List vaa)} : vai vgd Fuel (u0, u1, (u1.length : Int), (0 : Int), s4) K = vfq u0 u1 u1 s4 0 (fun z => K (u0, u1, (u1.length : Int), z.1, z.2)) :=
  vyj h0 u1 0 s4 Fuel rfl (vdk h0)
def vxi (a0 : (List vaa)) (a1 : (List vad)) (a2 : Int) (k : (List vaa) → Option Res) : Option Res :=
  if a0.length ≤ VE.maxLen then
    vfq a2 a1 a1 a0 0 (fun z25 =>
      k z25.2)
  else none
theorem v14 {a0 : (List vaa)} {a1 : (List vad)} {a2 : Int} (h0 : a1.length < 9223372036854775807) {k : (List vaa) → Option Res} : vix a0 a1 a2 k = vxi a0 a1 a2 k := by
  rw [vws]
  simp only [vst, vxi, (vy7 h0), Sum.elim_inl, Sum.elim_inr]
def vg6 (u0 : (List vaa)) (u1 : (List vaa)) (u2 : Bool) : List vaa → Nat → (((Bool × Int) ⊕ Int) → Option Res) → Option Res
  | [], i, k =>
    k (.inr (i : Int))
  | y :: l, i, k =>
    if 0 ≤ (i : Int) ∧ (i : Int) < (u1.length : Int) then
      vnn y (rd (Ty.zero tVersion) u1 (i : Int)) (fun y1 =>
        bif (!y1) then
          k (.inl (false, (i : Int)))
        else
          vg6 u0 u1 u2 l (i + 1) k)
    else none
theorem vzh {u0} {u1} {u2} (h0 : u0.length < 9223372036854775807) {K : (q0T ⊕ q0T) → Option Res} : ∀ (l : List vaa) (i : Nat)  (n : Nat), u0.drop i = l → l.length < n → vai vgn n (u0, u1, u2, (i : Int)) K = vg6 u0 u1 u2 l  i (Sum.elim (fun z => K (.inl (u0, u1, z.1, z.2))) (fun z => K (.inr (u0, u1, u2, z)))) := by
  intro l
  induction l with
  | nil =>
    intro i  n hd hn
    have hge := vc7 hd
    cases n with
    | zero => exact absurd hn (Nat.not_lt_zero _)
    | succ n => simp only [vai, vgn, vg6, hge, decide_false, cond_false, Sum.elim_inr, Sum.elim_inl]
  | cons y l ih =>
    intro i  n hd hn
    obtain ⟨hlt, hz, hd2, hw, hnn⟩ := vcu hd h0
    have hy := vcn hd
    cases n with
    | zero => exact absurd hn (Nat.not_lt_zero _)
    | succ n =>
      have ih2 := ih (i + 1)  n hd2 (Nat.lt_of_succ_lt_succ hn)
      simp only [vai, vgn, vg6, hlt, hz, decide_true, cond_true, and_self, if_true, hy, hw, hnn, Sum.elim_inl, Sum.elim_inr, ih2]
theorem vyt {u0} {u1} {u2} (h0 : u0.length < 9223372036854775807) {K : (q0T ⊕ q0T) → Option Res}  : vai vgn Fuel (u0, u1, u2, (0 : Int)) K = vg6 u0 u1 u2 u0  0 (Sum.elim (fun z => K (.inl (u0, u1, z.1, z.2))) (fun z => K (.inr (u0, u1, u2, z)))) :=
  vzh h0 u0 0  Fuel rfl (vdk h0)
def vxs (a0 : (List vaa)) (a1 : (List vaa)) (k : Bool → Option Res) : Option Res :=
  bif ((a0.length : Int) != (a1.length : Int)) then
    k false
  else
    vg6 a0 a1 false a0  0 (Sum.elim (fun z25 =>
      k z25.1) (fun _ =>
      k true))
theorem v1z {a0 : (List vaa)} {a1 : (List vaa)} (h0 : a0.length < 9223372036854775807) {k : Bool → Option Res} : vew a0 a1 k = vxs a0 a1 k := by
  rw [vv2]
  simp only [vty, vxs, (vyt h0), Sum.elim_inl, Sum.elim_inr]
def vg1 (u0 : (List vad)) (u1 : (List vad)) (u2 : Bool) : List vad → Nat → (((Bool × Int) ⊕ Int) → Option Res) → Option Res
  | [], i, k =>
    k (.inr (i : Int))
  | y :: l, i, k =>
    if 0 ≤ (i : Int) ∧ (i : Int) < (u1.length : Int) then
      vmj y (rd (Ty.zero tWrite) u1 (i : Int)) (fun y1 =>
        bif (!y1) then
          k (.inl (false, (i : Int)))
        else
          vg1 u0 u1 u2 l (i + 1) k)
    else none
theorem vza {u0} {u1} {u2} (h0 : u0.length < 9223372036854775807) {K : (q6T ⊕ q6T) → Option Res} : ∀ (l : List vad) (i : Nat)  (n : Nat), u0.drop i = l → l.length < n → vai vgt n (u0, u1, u2, (i : Int)) K = vg1 u0 u1 u2 l  i (Sum.elim (fun z => K (.inl (u0, u1, z.1, z.2))) (fun z => K (.inr (u0, u1, u2, z)))) := by
  intro l
  induction l with
  | nil =>
    intro i  n hd hn
    have hge := vc7 hd
    cases n with
    | zero => exact absurd hn (Nat.not_lt_zero _)
    | succ n => simp only [vai, vgt, vg1, hge, decide_false, cond_false, Sum.elim_inr, Sum.elim_inl]
  | cons y l ih =>
    intro i  n hd hn
    obtain ⟨hlt, hz, hd2, hw, hnn⟩ := vcu hd h0
    have hy := vcn hd
    cases n with
    | zero => exact absurd hn (Nat.not_lt_zero _)
    | succ n =>
      have ih2 := ih (i + 1)  n hd2 (Nat.lt_of_succ_lt_succ hn)
      simp only [vai, vgt, vg1, hlt, hz, decide_true, cond_true, and_self, if_true, hy, hw, hnn, Sum.elim_inl, Sum.elim_inr, ih2]
theorem vzb {u0} {u1} {u2} (h0 : u0.length < 9223372036854775807) {K : (q6T ⊕ q6T) → Option Res}  : vai vgt Fuel (u0, u1, u2, (0 : Int)) K = vg1 u0 u1 u2 u0  0 (Sum.elim (fun z => K (.inl (u0, u1, z.1, z.2))) (fun z => K (.inr (u0, u1, u2, z)))) :=
  vza h0 u0 0  Fuel rfl (vdk h0)
def vv0 (a0 : (List vad)) (a1 : (List vad)) (k : Bool → Option Res) : Option Res :=
  bif ((a0.length : Int) != (a1.length : Int)) then
    k false
  else
    vg1 a0 a1 false a0  0 (Sum.elim (fun z25 =>
      k z25.1) (fun _ =>
      k true))
theorem v1l {a0 : (List vad)} {a1 : (List vad)} (h0 : a0.length < 9223372036854775807) {k : Bool → Option Res} : vl5 a0 a1 k = vv0 a0 a1 k := by
  rw [vwb]
  simp only [vth, vv0, (vzb h0), Sum.elim_inl, Sum.elim_inr]
def vfp (u0 : (List vaa)) (u2 : Int) : List vaa → Int → Nat → (((Int × Int × Int) ⊕ (Int × Int)) → Option Res) → Option Res
  | [], s1, i, k =>
    k (.inr (s1, (i : Int)))
  | y :: l, s1, i, k =>
    vds s1 (fun y1 =>
      bif (!(vci (y.1) y1)) then
        k (.inl (s1, (-1 : Int), (i : Int)))
      else
        vds (IntKind.wrap .i64 (s1 + (1 : Int))) (fun y2 =>
          bif (!(vci (y.2.1) y2)) then
            k (.inl ((IntKind.wrap .i64 (s1 + (1 : Int))), (-1 : Int), (i : Int)))
          else
            bif (!(y.2.2.1 == (((IntKind.wrap .i64 ((IntKind.wrap .i64 (s1 + (1 : Int))) + (1 : Int))).tmod (3 : Int)) == (0 : Int)))) then
              k (.inl ((IntKind.wrap .i64 ((IntKind.wrap .i64 (s1 + (1 : Int))) + (1 : Int))), (-1 : Int), (i : Int)))
            else
              bif (y.2.2.2 != (IntKind.wrap .i64 ((IntKind.wrap .i64 ((IntKind.wrap .i64 (s1 + (1 : Int))) + (1 : Int))) + (1 : Int)))) then
                k (.inl ((IntKind.wrap .i64 ((IntKind.wrap .i64 ((IntKind.wrap .i64 (s1 + (1 : Int))) + (1 : Int))) + (1 : Int))), (-1 : Int), (i : Int)))
              else
                vfp u0 u2 l (IntKind.wrap .i64 ((IntKind.wrap .i64 ((IntKind.wrap .i64 ((IntKind.wrap .i64 (s1 + (1 : Int))) + (1 : Int))) + (1 : Int))) + (1 : Int))) (i + 1) k))
theorem vyo {u0} {u2} (h0 : u0.length < 9223372036854775807) {K : (q5T ⊕ q5T) → Option Res} : ∀ (l : List vaa) (i : Nat) (s1 : Int) (n : Nat), u0.drop i = l → l.length < n → vai vf3 n (u0, s1, u2, (i : Int)) K = vfp u0 u2 l s1 i (Sum.elim (fun z => K (.inl (u0, z.1, z.2.1, z.2.2))) (fun z => K (.inr (u0, z.1, u2, z.2)))) := by
  intro l
  induction l with
  | nil =>
    intro i s1 n hd hn
    have hge := vc7 hd
    cases n with
    | zero => exact absurd hn (Nat.not_lt_zero _)
    | succ n => simp only [vai, vf3, vfp, hge, decide_false, cond_false, Sum.elim_inr, Sum.elim_inl]
  | cons y l ih =>
    intro i s1 n hd hn
    obtain ⟨hlt, hz, hd2, hw, hnn⟩ := vcu hd h0
    have hy := vcn hd
    cases n with
    | zero => exact absurd hn (Nat.not_lt_zero _)
    | succ n =>
      have ih2 := fun (s1 : Int) => ih (i + 1) s1 n hd2 (Nat.lt_of_succ_lt_succ hn)
      simp only [vai, vf3, vfp, hlt, hz, decide_true, cond_true, and_self, if_true, hy, hw, hnn, Sum.elim_inl, Sum.elim_inr, ih2]
theorem vzg {u0} {u2} (h0 : u0.length < 9223372036854775807) {K : (q5T ⊕ q5T) → Option Res} {s1 : Int} : vai vf3 Fuel (u0, s1, u2, (0 : Int)) K = vfp u0 u2 u0 s1 0 (Sum.elim (fun z => K (.inl (u0, z.1, z.2.1, z.2.2))) (fun z => K (.inr (u0, z.1, u2, z.2)))) :=
  vyo h0 u0 0 s1 Fuel rfl (vdk h0)
def vxq (a0 : (List vaa)) (a1 : Int) (k : Int → Option Res) : Option Res :=
  vfp a0 (0 : Int) a0 a1 0 (Sum.elim (fun z25 =>
    k z25.2.1) (fun z26 =>
    k z26.1))
theorem v1m {a0 : (List vaa)} {a1 : Int} (h0 : a0.length < 9223372036854775807) {k : Int → Option Res} : viq a0 a1 k = vxq a0 a1 k := by
  rw [vww]
  simp only [vtj, vxq, (vzg h0), Sum.elim_inl, Sum.elim_inr]
def vct (u0 : (List vaa)) (u1 : (List vad)) (u2 : Int) (u3 : Bool) (u4 : (List vaa)) (u5 : (List vaa)) (k : (Bool × (List vaa)) → Option Res) : Option Res :=
    vj6 (1 : Int) u5 (fun y1 =>
      viq y1.2 (1 : Int) (fun y2 =>
        bif (decide (y2 < (0 : Int))) then
          k (false, y1.2)
        else
          bif (y2 != y1.1) then
            k (false, y1.2)
          else
            ves u0 (fun y3 =>
              ve9 u1 (fun y4 =>
                vix y3 y4 u2 (fun y5 =>
                  vew y5 u4 (fun y6 =>
                    bif (!y6) then
                      k (false, y1.2)
                    else
                      viq y1.2 (1 : Int) (fun y7 =>
                        bif (decide (y7 < (0 : Int))) then
                          k (false, y1.2)
                        else
                          bif (y7 != y1.1) then
                            k (false, y1.2)
                          else
                            k (true, y1.2))))))))
theorem vma {u0} {u1} {u2} {u3} {u4} {u5}  {K : q2T → Option Res} : vbu (u0, u1, u2, u3, u4, u5) K = vct u0 u1 u2 u3 u4 u5 (fun z => K (u0, u1, u2, z.1, u4, z.2)) := by
  simp only [vbu, vct, Sum.elim_inl, Sum.elim_inr]
def vv3 (a0 : (List vaa)) (a1 : (List vad)) (a2 : Int) (k : Bool → Option Res) : Option Res :=
  vnd a0 (1048576 : Int) (fun y25 =>
    bif (decide (y25 < (0 : Int))) then
      k true
    else
      vno a1 y25 (fun y26 =>
        bif (decide (y26 < (0 : Int))) then
          k true
        else
          ves a0 (fun y27 =>
            ve9 a1 (fun y28 =>
              vnx y27 y28 a2 (fun y29 =>
                ves a0 (fun y30 =>
                  ve9 a1 (fun y31 =>
                    vix y30 y31 a2 (fun y32 =>
                      vew y32 y29 (fun y33 =>
                        bif (!y33) then
                          k false
                        else
                          ves a0 (fun y34 =>
                            vew y30 y34 (fun y35 =>
                              bif (!y35) then
                                k false
                              else
                                ve9 a1 (fun y36 =>
                                  vl5 y31 y36 (fun y37 =>
                                    bif (!y37) then
                                      k false
                                    else
                                      vj6 (1 : Int) y30 (fun y38 =>
                                        vms y38.1 y31 (fun y39 =>
                                          bif (decide (y39.1 < (0 : Int))) then
                                            k false
                                          else
                                            vew y32 y29 (fun y40 =>
                                              bif (!y40) then
                                                k false
                                              else
                                                vct a0 a1 a2 false y29 y32 (fun z41 =>
                                                  k z41.1)))))))))))))))))
theorem v2e {a0 : (List vaa)} {a1 : (List vad)} {a2 : Int}  {k : Bool → Option Res} : vq2 a0 a1 a2 k = vv3 a0 a1 a2 k := by
  rw [vxe]
  simp only [vs3, vv3, vma, Sum.elim_inl, Sum.elim_inr]
end
end Go.VE
