/- Loops told as recursions over what is left; written by gen.py. -/
import Derived.Test.YtiajamilfgkecaaWriteKeyN
import Derived.Test.YtiajamilfgkecaaP1
namespace Go.VE
noncomputable section
set_option linter.unusedVariables false
set_option linter.unusedSimpArgs false
set_option maxRecDepth 100000
def vj3 (u0 : (List vab)) (u2 : Int) : List vab → Int → Nat → (((Int × Int × Int) ⊕ (Int × Int)) → Option Res) → Option Res
  | [], s1, i, k =>
    k (.inr (s1, (i : Int)))
  | y :: l, s1, i, k =>
    vqq y s1 (fun y1 =>
      bif (decide (y1 < (0 : Int))) then
        k (.inl (y1, (-1 : Int), (i : Int)))
      else
        vj3 u0 u2 l y1 (i + 1) k)
theorem v3q {u0} {u2} (h0 : u0.length < 9223372036854775807) {K : (q2T ⊕ q2T) → Option Res} : ∀ (l : List vab) (i : Nat) (s1 : Int) (n : Nat), u0.drop i = l → l.length < n → vai vhw n (u0, s1, u2, (i : Int)) K = vj3 u0 u2 l s1 i (Sum.elim (fun z => K (.inl (u0, z.1, z.2.1, z.2.2))) (fun z => K (.inr (u0, z.1, u2, z.2)))) := by
  intro l
  induction l with
  | nil =>
    intro i s1 n hd hn
    have hge := vcq hd
    cases n with
    | zero => exact absurd hn (Nat.not_lt_zero _)
    | succ n => simp only [vai, vhw, vj3, hge, decide_false, cond_false, Sum.elim_inr, Sum.elim_inl]
  | cons y l ih =>
    intro i s1 n hd hn
    obtain ⟨hlt, hz, hd2, hw, hnn⟩ := vbx hd h0
    have hy := vby hd
    cases n with
    | zero => exact absurd hn (Nat.not_lt_zero _)
    | succ n =>
      have ih2 := fun (s1 : Int) => ih (i + 1) s1 n hd2 (Nat.lt_of_succ_lt_succ hn)
      simp only [vai, vhw, vj3, hlt, hz, decide_true, cond_true, and_self, if_true, hy, hw, hnn, Sum.elim_inl, Sum.elim_inr, ih2]
theorem v35 {u0} {u2} (h0 : u0.length < 9223372036854775807) {K : (q2T ⊕ q2T) → Option Res} {s1 : Int} : vai vhw Fuel (u0, s1, u2, (0 : Int)) K = vj3 u0 u2 u0 s1 0 (Sum.elim (fun z => K (.inl (u0, z.1, z.2.1, z.2.2))) (fun z => K (.inr (u0, z.1, u2, z.2)))) :=
  v3q h0 u0 0 s1 Fuel rfl (vb2 h0)
def vjo (u0 : (List vaa)) (u2 : Int) : List vaa → Int → Nat → (((Int × Int × Int) ⊕ (Int × Int)) → Option Res) → Option Res
  | [], s1, i, k =>
    k (.inr (s1, (i : Int)))
  | y :: l, s1, i, k =>
    vl3 y s1 (fun y1 =>
      bif (decide (y1 < (0 : Int))) then
        k (.inl (y1, (-1 : Int), (i : Int)))
      else
        vjo u0 u2 l y1 (i + 1) k)
theorem v3p {u0} {u2} (h0 : u0.length < 9223372036854775807) {K : (q7T ⊕ q7T) → Option Res} : ∀ (l : List vaa) (i : Nat) (s1 : Int) (n : Nat), u0.drop i = l → l.length < n → vai vhz n (u0, s1, u2, (i : Int)) K = vjo u0 u2 l s1 i (Sum.elim (fun z => K (.inl (u0, z.1, z.2.1, z.2.2))) (fun z => K (.inr (u0, z.1, u2, z.2)))) := by
  intro l
  induction l with
  | nil =>
    intro i s1 n hd hn
    have hge := vcq hd
    cases n with
    | zero => exact absurd hn (Nat.not_lt_zero _)
    | succ n => simp only [vai, vhz, vjo, hge, decide_false, cond_false, Sum.elim_inr, Sum.elim_inl]
  | cons y l ih =>
    intro i s1 n hd hn
    obtain ⟨hlt, hz, hd2, hw, hnn⟩ := vbx hd h0
    have hy := vby hd
    cases n with
    | zero => exact absurd hn (Nat.not_lt_zero _)
    | succ n =>
      have ih2 := fun (s1 : Int) => ih (i + 1) s1 n hd2 (Nat.lt_of_succ_lt_succ hn)
      simp only [vai, vhz, vjo, hlt, hz, decide_true, cond_true, and_self, if_true, hy, hw, hnn, Sum.elim_inl, Sum.elim_inr, ih2]
theorem v38 {u0} {u2} (h0 : u0.length < 9223372036854775807) {K : (q7T ⊕ q7T) → Option Res} {s1 : Int} : vai vhz Fuel (u0, s1, u2, (0 : Int)) K = vjo u0 u2 u0 s1 0 (Sum.elim (fun z => K (.inl (u0, z.1, z.2.1, z.2.2))) (fun z => K (.inr (u0, z.1, u2, z.2)))) :=
  v3p h0 u0 0 s1 Fuel rfl (vb2 h0)
def vfg (u0 : (List vab)) : List vab → (List vab) → Nat → ((Int × (List vab)) → Option Res) → Option Res
  | [], s2, i, k =>
    k ((i : Int), s2)
  | y :: l, s2, i, k =>
    vrp y (fun y1 =>
      if 0 ≤ (i : Int) ∧ (i : Int) < (s2.length : Int) then
        vfg u0 l (s2.set (i : Int).toNat y1) (i + 1) k
      else none)
theorem v4h {u0} (h0 : u0.length < 9223372036854775807) {K : q1T → Option Res} : ∀ (l : List vab) (i : Nat) (s2 : (List vab)) (n : Nat), u0.drop i = l → l.length < n → vai via n (u0, (i : Int), s2) K = vfg u0 l s2 i (fun z => K (u0, z.1, z.2)) := by
  intro l
  induction l with
  | nil =>
    intro i s2 n hd hn
    have hge := vcq hd
    cases n with
    | zero => exact absurd hn (Nat.not_lt_zero _)
    | succ n => simp only [vai, via, vfg, hge, decide_false, cond_false, Sum.elim_inr, Sum.elim_inl]
  | cons y l ih =>
    intro i s2 n hd hn
    obtain ⟨hlt, hz, hd2, hw, hnn⟩ := vbx hd h0
    have hy := vby hd
    cases n with
    | zero => exact absurd hn (Nat.not_lt_zero _)
    | succ n =>
      have ih2 := fun (s2 : (List vab)) => ih (i + 1) s2 n hd2 (Nat.lt_of_succ_lt_succ hn)
      simp only [vai, via, vfg, hlt, hz, decide_true, cond_true, and_self, if_true, hy, hw, hnn, Sum.elim_inl, Sum.elim_inr, ih2]
theorem v5g {u0} (h0 : u0.length < 9223372036854775807) {K : q1T → Option Res} {s2 : (List vab)} : vai via Fuel (u0, (0 : Int), s2) K = vfg u0 u0 s2 0 (fun z => K (u0, z.1, z.2)) :=
  v4h h0 u0 0 s2 Fuel rfl (vb2 h0)
def v0r (a0 : (List vab)) (k : (List vab) → Option Res) : Option Res :=
  if 0 ≤ (a0.length : Int) ∧ (a0.length : Int) ≤ (a0.length : Int) ∧ (a0.length : Int) ≤ (VE.maxLen : Int) then
    vfg a0 a0 (List.replicate (a0.length : Int).toNat (Ty.zero tRange)) 0 (fun z27 =>
      k z27.2)
  else none
theorem v8c {a0 : (List vab)} (h0 : a0.length < 9223372036854775807) {k : (List vab) → Option Res} : vq6 a0 k = v0r a0 k := by
  rw [v1a]
  simp only [vxo, v0r, (v5g h0), Sum.elim_inl, Sum.elim_inr]
def ve1 (u0 : (List vaa)) : List vaa → (List vaa) → Nat → ((Int × (List vaa)) → Option Res) → Option Res
  | [], s2, i, k =>
    k ((i : Int), s2)
  | y :: l, s2, i, k =>
    vg2 y (fun y1 =>
      if 0 ≤ (i : Int) ∧ (i : Int) < (s2.length : Int) then
        ve1 u0 l (s2.set (i : Int).toNat y1) (i + 1) k
      else none)
theorem v44 {u0} (h0 : u0.length < 9223372036854775807) {K : q5T → Option Res} : ∀ (l : List vaa) (i : Nat) (s2 : (List vaa)) (n : Nat), u0.drop i = l → l.length < n → vai vh3 n (u0, (i : Int), s2) K = ve1 u0 l s2 i (fun z => K (u0, z.1, z.2)) := by
  intro l
  induction l with
  | nil =>
    intro i s2 n hd hn
    have hge := vcq hd
    cases n with
    | zero => exact absurd hn (Nat.not_lt_zero _)
    | succ n => simp only [vai, vh3, ve1, hge, decide_false, cond_false, Sum.elim_inr, Sum.elim_inl]
  | cons y l ih =>
    intro i s2 n hd hn
    obtain ⟨hlt, hz, hd2, hw, hnn⟩ := vbx hd h0
    have hy := vby hd
    cases n with
    | zero => exact absurd hn (Nat.not_lt_zero _)
    | succ n =>
      have ih2 := fun (s2 : (List vaa)) => ih (i + 1) s2 n hd2 (Nat.lt_of_succ_lt_succ hn)
      simp only [vai, vh3, ve1, hlt, hz, decide_true, cond_true, and_self, if_true, hy, hw, hnn, Sum.elim_inl, Sum.elim_inr, ih2]
theorem v43 {u0} (h0 : u0.length < 9223372036854775807) {K : q5T → Option Res} {s2 : (List vaa)} : vai vh3 Fuel (u0, (0 : Int), s2) K = ve1 u0 u0 s2 0 (fun z => K (u0, z.1, z.2)) :=
  v44 h0 u0 0 s2 Fuel rfl (vb2 h0)
def v0l (a0 : (List vaa)) (k : (List vaa) → Option Res) : Option Res :=
  if 0 ≤ (a0.length : Int) ∧ (a0.length : Int) ≤ (a0.length : Int) ∧ (a0.length : Int) ≤ (VE.maxLen : Int) then
    ve1 a0 a0 (List.replicate (a0.length : Int).toNat (Ty.zero tWrite)) 0 (fun z27 =>
      k z27.2)
  else none
theorem v9j {a0 : (List vaa)} (h0 : a0.length < 9223372036854775807) {k : (List vaa) → Option Res} : vp1 a0 k = v0l a0 k := by
  rw [v19]
  simp only [vyw, v0l, (v43 h0), Sum.elim_inl, Sum.elim_inr]
def vhu (u0 : ByteArray) (u1 : Bool) : List Int → Nat → (((Bool × Int) ⊕ Int) → Option Res) → Option Res
  | [], i, k =>
    k (.inr (i : Int))
  | y :: l, i, k =>
    bif (decide (y < (97 : Int))) then
      k (.inl (false, (i : Int)))
    else
      bif (decide (y > (122 : Int))) then
        k (.inl (false, (i : Int)))
      else
        vhu u0 u1 l (i + 1) k
theorem v5l {u0} {u1} (h0 : u0.size < 9223372036854775807) {K : ((ByteArray × Bool × Int) ⊕ (ByteArray × Bool × Int)) → Option Res} : ∀ (l : List Int) (i : Nat)  (n : Nat), (vbv u0).drop i = l → l.length < n → vai vhc n (u0, u1, (i : Int)) K = vhu u0 u1 l  i (Sum.elim (fun z => K (.inl (u0, z.1, z.2))) (fun z => K (.inr (u0, u1, z)))) := by
  intro l
  induction l with
  | nil =>
    intro i  n hd hn
    have hge := v1j hd
    cases n with
    | zero => exact absurd hn (Nat.not_lt_zero _)
    | succ n => simp only [vai, vhc, vhu, hge, decide_false, cond_false, Sum.elim_inr, Sum.elim_inl]
  | cons y l ih =>
    intro i  n hd hn
    obtain ⟨hlt, hz, hd2, hw, hnn⟩ := vxt hd h0
    have hy := v2s hd
    cases n with
    | zero => exact absurd hn (Nat.not_lt_zero _)
    | succ n =>
      have ih2 := ih (i + 1)  n hd2 (Nat.lt_of_succ_lt_succ hn)
      simp only [vai, vhc, vhu, hlt, hz, decide_true, cond_true, and_self, if_true, hy, hw, hnn, Sum.elim_inl, Sum.elim_inr, ih2]
theorem v5j {u0} {u1} (h0 : u0.size < 9223372036854775807) {K : ((ByteArray × Bool × Int) ⊕ (ByteArray × Bool × Int)) → Option Res}  : vai vhc Fuel (u0, u1, (0 : Int)) K = vhu u0 u1 (vbv u0)  0 (Sum.elim (fun z => K (.inl (u0, z.1, z.2))) (fun z => K (.inr (u0, u1, z)))) :=
  v5l h0 (vbv u0) 0  Fuel rfl (vyj h0)
def v2z (a0 : ByteArray) (k : Bool → Option Res) : Option Res :=
  vhu a0 false (vbv a0)  0 (Sum.elim (fun z27 =>
    k z27.1) (fun _ =>
    vex (a0.size : Int) (1 : Int) (3 : Int) (fun y29 =>
      k y29)))
theorem v9z {a0 : ByteArray} (h0 : a0.size < 9223372036854775807) {k : Bool → Option Res} : vjg a0 k = v2z a0 k := by
  rw [v09]
  simp only [vyp, v2z, (v5j h0), Sum.elim_inl, Sum.elim_inr]
def vgx (u0 : (List vaa)) (u1 : Bool) : List vaa → Nat → (((Bool × Int) ⊕ Int) → Option Res) → Option Res
  | [], i, k =>
    k (.inr (i : Int))
  | y :: l, i, k =>
    vl4 y (fun y1 =>
      bif (!y1) then
        k (.inl (false, (i : Int)))
      else
        bif (decide ((i : Int) > (0 : Int))) then
          if 0 ≤ (IntKind.wrap .i64 ((i : Int) - (1 : Int))) ∧ (IntKind.wrap .i64 ((i : Int) - (1 : Int))) < (u0.length : Int) then
            bif (!(vac ((rd (Ty.zero tWrite) u0 (IntKind.wrap .i64 ((i : Int) - (1 : Int)))).1) (y.1))) then
              k (.inl (false, (i : Int)))
            else
              vgx u0 u1 l (i + 1) k
          else none
        else
          vgx u0 u1 l (i + 1) k)
theorem v5o {u0} {u1} (h0 : u0.length < 9223372036854775807) {K : (((List vaa) × Bool × Int) ⊕ ((List vaa) × Bool × Int)) → Option Res} : ∀ (l : List vaa) (i : Nat)  (n : Nat), u0.drop i = l → l.length < n → vai vib n (u0, u1, (i : Int)) K = vgx u0 u1 l  i (Sum.elim (fun z => K (.inl (u0, z.1, z.2))) (fun z => K (.inr (u0, u1, z)))) := by
  intro l
  induction l with
  | nil =>
    intro i  n hd hn
    have hge := vcq hd
    cases n with
    | zero => exact absurd hn (Nat.not_lt_zero _)
    | succ n => simp only [vai, vib, vgx, hge, decide_false, cond_false, Sum.elim_inr, Sum.elim_inl]
  | cons y l ih =>
    intro i  n hd hn
    obtain ⟨hlt, hz, hd2, hw, hnn⟩ := vbx hd h0
    have hy := vby hd
    cases n with
    | zero => exact absurd hn (Nat.not_lt_zero _)
    | succ n =>
      have ih2 := ih (i + 1)  n hd2 (Nat.lt_of_succ_lt_succ hn)
      simp only [vai, vib, vgx, hlt, hz, decide_true, cond_true, and_self, if_true, hy, hw, hnn, Sum.elim_inl, Sum.elim_inr, ih2]
theorem v4y {u0} {u1} (h0 : u0.length < 9223372036854775807) {K : (((List vaa) × Bool × Int) ⊕ ((List vaa) × Bool × Int)) → Option Res}  : vai vib Fuel (u0, u1, (0 : Int)) K = vgx u0 u1 u0  0 (Sum.elim (fun z => K (.inl (u0, z.1, z.2))) (fun z => K (.inr (u0, u1, z)))) :=
  v5o h0 u0 0  Fuel rfl (vb2 h0)
def v0e (a0 : (List vaa)) (k : Bool → Option Res) : Option Res :=
  vgx a0 false a0  0 (Sum.elim (fun z27 =>
    k z27.1) (fun _ =>
    k (decide ((a0.length : Int) ≤ (8 : Int)))))
theorem v91 {a0 : (List vaa)} (h0 : a0.length < 9223372036854775807) {k : Bool → Option Res} : vk8 a0 k = v0e a0 k := by
  rw [v3b]
  simp only [vw9, v0e, (v4y h0), Sum.elim_inl, Sum.elim_inr]
def vbq (u0 : Bool) (u1 : Int) (u2 : Int) (u3 : Int) (u4 : Int) (u5 : (List vab)) (u6 : (List vaa)) (u7 : Bool) (u8 : ByteArray) (k : Bool → Option Res) : Option Res :=
    bif (u2 != (1 : Int)) then
      k true
    else
      k (!u7)
theorem vo5 {u0} {u1} {u2} {u3} {u4} {u5} {u6} {u7} {u8}  {K : q14T → Option Res} : vbb (u0, u1, u2, u3, u4, u5, u6, u7, u8) K = vbq u0 u1 u2 u3 u4 u5 u6 u7 u8 (fun z => K (z, u1, u2, u3, u4, u5, u6, u7, u8)) := by
  simp only [vbb, vbq, Sum.elim_inl, Sum.elim_inr]
def vbr (u0 : Bool) (u1 : Int) (u2 : Int) (u3 : Int) (u4 : Int) (u5 : (List vab)) (u6 : (List vaa)) (u7 : Bool) (u8 : ByteArray) (k : Bool → Option Res) : Option Res :=
    bif (u2 == (2 : Int)) then
      vjg u8 (fun y1 =>
        bif (!y1) then
          k false
        else
          bif (u2 != (2 : Int)) then
            bif (!(vay u8 (⟨#[]⟩ : ByteArray))) then
              k false
            else
              vbq u0 u1 u2 u3 u4 u5 u6 u7 u8 (fun z2 =>
                k z2)
          else
            vbq u0 u1 u2 u3 u4 u5 u6 u7 u8 (fun z3 =>
              k z3))
    else
      bif (u2 != (2 : Int)) then
        bif (!(vay u8 (⟨#[]⟩ : ByteArray))) then
          k false
        else
          vbq u0 u1 u2 u3 u4 u5 u6 u7 u8 (fun z4 =>
            k z4)
      else
        vbq u0 u1 u2 u3 u4 u5 u6 u7 u8 (fun z5 =>
          k z5)
theorem vo3 {u0} {u1} {u2} {u3} {u4} {u5} {u6} {u7} {u8}  {K : q14T → Option Res} : vbc (u0, u1, u2, u3, u4, u5, u6, u7, u8) K = vbr u0 u1 u2 u3 u4 u5 u6 u7 u8 (fun z => K (z, u1, u2, u3, u4, u5, u6, u7, u8)) := by
  simp only [vbc, vbr, vo5, Sum.elim_inl, Sum.elim_inr]
def vhf (u0 : Bool) (u2 : Int) (u3 : Int) (u4 : Int) (u5 : Int) (u6 : (List vab)) (u7 : (List vaa)) (u8 : Bool) (u9 : ByteArray) : List vab → Nat → (((Bool × Int) ⊕ Int) → Option Res) → Option Res
  | [], i, k =>
    k (.inr (i : Int))
  | y :: l, i, k =>
    vqw y (fun y1 =>
      bif (!y1) then
        k (.inl (false, (i : Int)))
      else
        vhf u0 u2 u3 u4 u5 u6 u7 u8 u9 l (i + 1) k)
theorem v4k {u0} {u2} {u3} {u4} {u5} {u6} {u7} {u8} {u9} (h0 : u6.length < 9223372036854775807) {K : (q17T ⊕ q17T) → Option Res} : ∀ (l : List vab) (i : Nat)  (n : Nat), u6.drop i = l → l.length < n → vai vin n (u0, (i : Int), u2, u3, u4, u5, u6, u7, u8, u9) K = vhf u0 u2 u3 u4 u5 u6 u7 u8 u9 l  i (Sum.elim (fun z => K (.inl (z.1, z.2, u2, u3, u4, u5, u6, u7, u8, u9))) (fun z => K (.inr (u0, z, u2, u3, u4, u5, u6, u7, u8, u9)))) := by
  intro l
  induction l with
  | nil =>
    intro i  n hd hn
    have hge := vcq hd
    cases n with
    | zero => exact absurd hn (Nat.not_lt_zero _)
    | succ n => simp only [vai, vin, vhf, hge, decide_false, cond_false, Sum.elim_inr, Sum.elim_inl]
  | cons y l ih =>
    intro i  n hd hn
    obtain ⟨hlt, hz, hd2, hw, hnn⟩ := vbx hd h0
    have hy := vby hd
    cases n with
    | zero => exact absurd hn (Nat.not_lt_zero _)
    | succ n =>
      have ih2 := ih (i + 1)  n hd2 (Nat.lt_of_succ_lt_succ hn)
      simp only [vai, vin, vhf, hlt, hz, decide_true, cond_true, and_self, if_true, hy, hw, hnn, Sum.elim_inl, Sum.elim_inr, ih2]
theorem v34 {u0} {u2} {u3} {u4} {u5} {u6} {u7} {u8} {u9} (h0 : u6.length < 9223372036854775807) {K : (q17T ⊕ q17T) → Option Res}  : vai vin Fuel (u0, (0 : Int), u2, u3, u4, u5, u6, u7, u8, u9) K = vhf u0 u2 u3 u4 u5 u6 u7 u8 u9 u6  0 (Sum.elim (fun z => K (.inl (z.1, z.2, u2, u3, u4, u5, u6, u7, u8, u9))) (fun z => K (.inr (u0, z, u2, u3, u4, u5, u6, u7, u8, u9)))) :=
  v4k h0 u6 0  Fuel rfl (vb2 h0)
def vdl (u0 : Bool) (u1 : Int) (u2 : Int) (u3 : Int) (u4 : Int) (u5 : (List vab)) (u6 : (List vaa)) (u7 : Bool) (u8 : ByteArray) (k : Bool → Option Res) : Option Res :=
    vhf u0 u1 u2 u3 u4 u5 u6 u7 u8 u5  0 (Sum.elim (fun z1 =>
      k z1.1) (fun _ =>
      bif (u2 == (3 : Int)) then
        vex u4 (IntKind.wrap .i64 (u3 + (1 : Int))) (9999 : Int) (fun y3 =>
          bif (!y3) then
            k false
          else
            bif (u2 != (3 : Int)) then
              bif (u4 != (0 : Int)) then
                k false
              else
                vbr u0 u1 u2 u3 u4 u5 u6 u7 u8 (fun z4 =>
                  k z4)
            else
              vbr u0 u1 u2 u3 u4 u5 u6 u7 u8 (fun z5 =>
                k z5))
      else
        bif (u2 != (3 : Int)) then
          bif (u4 != (0 : Int)) then
            k false
          else
            vbr u0 u1 u2 u3 u4 u5 u6 u7 u8 (fun z6 =>
              k z6)
        else
          vbr u0 u1 u2 u3 u4 u5 u6 u7 u8 (fun z7 =>
            k z7)))
theorem vpq {u0} {u1} {u2} {u3} {u4} {u5} {u6} {u7} {u8} (h0 : u5.length < 9223372036854775807) {K : q14T → Option Res} : vcg (u0, u1, u2, u3, u4, u5, u6, u7, u8) K = vdl u0 u1 u2 u3 u4 u5 u6 u7 u8 (fun z => K (z, u1, u2, u3, u4, u5, u6, u7, u8)) := by
  simp only [vcg, vdl, vo3, (v34 h0), Sum.elim_inl, Sum.elim_inr]
def v13 (a0 : dTxn) (k : Bool → Option Res) : Option Res :=
  vex a0.1 (1 : Int) (9999 : Int) (fun y27 =>
    bif (!y27) then
      k false
    else
      vex a0.2.1 (1 : Int) (3 : Int) (fun y28 =>
        bif (!y28) then
          k false
        else
          vex a0.2.2.1 (0 : Int) (9999 : Int) (fun y29 =>
            bif (!y29) then
              k false
            else
              bif (decide ((a0.2.2.2.2.1.length : Int) > (8 : Int))) then
                k false
              else
                vk8 a0.2.2.2.2.2.1 (fun y30 =>
                  bif (!y30) then
                    k false
                  else
                    vdl false a0.1 a0.2.1 a0.2.2.1 a0.2.2.2.1 a0.2.2.2.2.1 a0.2.2.2.2.2.1 a0.2.2.2.2.2.2.1 a0.2.2.2.2.2.2.2 (fun z31 =>
                      k z31)))))
theorem v8e {a0 : dTxn} (h0 : a0.2.2.2.2.1.length < 9223372036854775807) {k : Bool → Option Res} : vm8 a0 k = v13 a0 k := by
  rw [v25]
  simp only [vyt, v13, (vpq h0), Sum.elim_inl, Sum.elim_inr]
def vfv (u0 : (List vaa)) (u2 : ByteArray) (u3 : ByteArray) (u4 : Bool) : List vaa → (List vaa) → Nat → ((Int × (List vaa)) → Option Res) → Option Res
  | [], s5, i, k =>
    k ((i : Int), s5)
  | y :: l, s5, i, k =>
    bif (vac (y.1) u2) then
      if s5.length + [y].length ≤ VE.maxLen then
        vfv u0 u2 u3 u4 l (s5 ++ [y]) (i + 1) k
      else none
    else
      vfv u0 u2 u3 u4 l s5 (i + 1) k
theorem v5t {u0} {u2} {u3} {u4} (h0 : u0.length < 9223372036854775807) {K : q6T → Option Res} : ∀ (l : List vaa) (i : Nat) (s5 : (List vaa)) (n : Nat), u0.drop i = l → l.length < n → vai vg9 n (u0, (i : Int), u2, u3, u4, s5) K = vfv u0 u2 u3 u4 l s5 i (fun z => K (u0, z.1, u2, u3, u4, z.2)) := by
  intro l
  induction l with
  | nil =>
    intro i s5 n hd hn
    have hge := vcq hd
    cases n with
    | zero => exact absurd hn (Nat.not_lt_zero _)
    | succ n => simp only [vai, vg9, vfv, hge, decide_false, cond_false, Sum.elim_inr, Sum.elim_inl]
  | cons y l ih =>
    intro i s5 n hd hn
    obtain ⟨hlt, hz, hd2, hw, hnn⟩ := vbx hd h0
    have hy := vby hd
    cases n with
    | zero => exact absurd hn (Nat.not_lt_zero _)
    | succ n =>
      have ih2 := fun (s5 : (List vaa)) => ih (i + 1) s5 n hd2 (Nat.lt_of_succ_lt_succ hn)
      simp only [vai, vg9, vfv, hlt, hz, decide_true, cond_true, and_self, if_true, hy, hw, hnn, Sum.elim_inl, Sum.elim_inr, ih2]
theorem v5s {u0} {u2} {u3} {u4} (h0 : u0.length < 9223372036854775807) {K : q6T → Option Res} {s5 : (List vaa)} : vai vg9 Fuel (u0, (0 : Int), u2, u3, u4, s5) K = vfv u0 u2 u3 u4 u0 s5 0 (fun z => K (u0, z.1, u2, u3, u4, z.2)) :=
  v5t h0 u0 0 s5 Fuel rfl (vb2 h0)
def vfe (u0 : (List vaa)) (u2 : ByteArray) (u3 : ByteArray) (u4 : Bool) : List vaa → (List vaa) → Nat → ((Int × (List vaa)) → Option Res) → Option Res
  | [], s5, i, k =>
    k ((i : Int), s5)
  | y :: l, s5, i, k =>
    bif (!((vac (y.1) u2) || (vay (y.1) u2))) then
      if s5.length + [y].length ≤ VE.maxLen then
        vfe u0 u2 u3 u4 l (s5 ++ [y]) (i + 1) k
      else none
    else
      vfe u0 u2 u3 u4 l s5 (i + 1) k
theorem v4u {u0} {u2} {u3} {u4} (h0 : u0.length < 9223372036854775807) {K : q6T → Option Res} : ∀ (l : List vaa) (i : Nat) (s5 : (List vaa)) (n : Nat), u0.drop i = l → l.length < n → vai vik n (u0, (i : Int), u2, u3, u4, s5) K = vfe u0 u2 u3 u4 l s5 i (fun z => K (u0, z.1, u2, u3, u4, z.2)) := by
  intro l
  induction l with
  | nil =>
    intro i s5 n hd hn
    have hge := vcq hd
    cases n with
    | zero => exact absurd hn (Nat.not_lt_zero _)
    | succ n => simp only [vai, vik, vfe, hge, decide_false, cond_false, Sum.elim_inr, Sum.elim_inl]
  | cons y l ih =>
    intro i s5 n hd hn
    obtain ⟨hlt, hz, hd2, hw, hnn⟩ := vbx hd h0
    have hy := vby hd
    cases n with
    | zero => exact absurd hn (Nat.not_lt_zero _)
    | succ n =>
      have ih2 := fun (s5 : (List vaa)) => ih (i + 1) s5 n hd2 (Nat.lt_of_succ_lt_succ hn)
      simp only [vai, vik, vfe, hlt, hz, decide_true, cond_true, and_self, if_true, hy, hw, hnn, Sum.elim_inl, Sum.elim_inr, ih2]
theorem v4c {u0} {u2} {u3} {u4} (h0 : u0.length < 9223372036854775807) {K : q6T → Option Res} {s5 : (List vaa)} : vai vik Fuel (u0, (0 : Int), u2, u3, u4, s5) K = vfe u0 u2 u3 u4 u0 s5 0 (fun z => K (u0, z.1, u2, u3, u4, z.2)) :=
  v4u h0 u0 0 s5 Fuel rfl (vb2 h0)
def v1z (a0 : (List vaa)) (a1 : vaa) (k : (List vaa) → Option Res) : Option Res :=
  vfv a0 a1.1 a1.2.1 a1.2.2 a0 ([] : List vaa) 0 (fun z27 =>
    if z27.2.length + [a1].length ≤ VE.maxLen then
      vfe a0 a1.1 a1.2.1 a1.2.2 a0 (z27.2 ++ [a1]) 0 (fun z28 =>
        k z28.2)
    else none)
theorem v8a {a0 : (List vaa)} {a1 : vaa} (h0 : a0.length < 9223372036854775807) {k : (List vaa) → Option Res} : vn9 a0 a1 k = v1z a0 a1 k := by
  rw [v1t]
  simp only [vyk, v1z, (v4c h0), (v5s h0), Sum.elim_inl, Sum.elim_inr]
def vdk (u0 : Bool) (u1 : Int) (u2 : Int) (u3 : Int) (u4 : Int) (u5 : (List vab)) (u6 : (List vaa)) (u7 : Bool) (u8 : ByteArray) (u9 : ByteArray) (u10 : ByteArray) (u11 : Bool) (u12 : Int) (u13 : Int) (u14 : Int) (u15 : Int) (u16 : Bool) (u17 : ByteArray) (u18 : Int) (u19 : Int) (u20 : Int) (u21 : Int) (u22 : Bool) (u23 : ByteArray) (u24 : (List vab)) (u25 : (List vaa)) (u26 : (List vab)) (u27 : (List vaa)) (k : ((Bool × (List vaa)) ⊕ q15T) → Option Res) : Option Res :=
    vn9 u6 (u9, (u10, u11)) (fun y1 =>
      vk8 y1 (fun y2 =>
        bif (!y2) then
          vlw (u1, (u2, (u3, (u4, (u5, (u6, (u7, u8))))))) (fun y3 =>
            k (.inr (false, y3.1, y3.2.1, y3.2.2.1, y3.2.2.2.1, y3.2.2.2.2.1, y3.2.2.2.2.2.1, y3.2.2.2.2.2.2.1, y3.2.2.2.2.2.2.2, y1)))
        else
          k (.inl (true, y1))))
theorem vo8 {u0} {u1} {u2} {u3} {u4} {u5} {u6} {u7} {u8} {u9} {u10} {u11} {u12} {u13} {u14} {u15} {u16} {u17} {u18} {u19} {u20} {u21} {u22} {u23} {u24} {u25} {u26} {u27}  {K : (q13T ⊕ q12T) → Option Res} : vcl (u0, u1, u2, u3, u4, u5, u6, u7, u8, u9, u10, u11, u12, u13, u14, u15, u16, u17, u18, u19, u20, u21, u22, u23, u24, u25, u26, u27) K = vdk u0 u1 u2 u3 u4 u5 u6 u7 u8 u9 u10 u11 u12 u13 u14 u15 u16 u17 u18 u19 u20 u21 u22 u23 u24 u25 u26 u27 (Sum.elim (fun z => K (.inl (z.1, u1, u2, u3, u4, u5, u6, u7, u8, u9, u10, u11, u18, u19, u20, u21, u22, u23, u18, u19, u20, u21, u22, u23, u26, z.2))) (fun z => K (.inr (z.1, u1, u2, u3, u4, u5, u6, u7, u8, u9, u10, u11, z.2.1, z.2.2.1, z.2.2.2.1, z.2.2.2.2.1, z.2.2.2.2.2.1, z.2.2.2.2.2.2.1, u18, u19, u20, u21, u22, u23, z.2.2.2.2.2.2.2.1, z.2.2.2.2.2.2.2.2.1, u26, z.2.2.2.2.2.2.2.2.2)))) := by
  simp only [vcl, vdk, Sum.elim_inl, Sum.elim_inr]
def v0q (a0 : dTxn) (a1 : vaa) (k : q22T → Option Res) : Option Res :=
  vlw a0 (fun y27 =>
    vm8 a0 (fun y28 =>
      bif (!y28) then
        k (y27.1, y27.2.1, y27.2.2.1, y27.2.2.2.1, y27.2.2.2.2.1, y27.2.2.2.2.2.1, false, y27.2.2.2.2.2.2.1, y27.2.2.2.2.2.2.2)
      else
        bif (a0.2.1 != (1 : Int)) then
          k (y27.1, y27.2.1, y27.2.2.1, y27.2.2.2.1, y27.2.2.2.2.1, y27.2.2.2.2.2.1, false, y27.2.2.2.2.2.2.1, y27.2.2.2.2.2.2.2)
        else
          vl4 a1 (fun y29 =>
            bif (!y29) then
              k (y27.1, y27.2.1, y27.2.2.1, y27.2.2.2.1, y27.2.2.2.2.1, y27.2.2.2.2.2.1, false, y27.2.2.2.2.2.2.1, y27.2.2.2.2.2.2.2)
            else
              vdk false a0.1 a0.2.1 a0.2.2.1 a0.2.2.2.1 a0.2.2.2.2.1 a0.2.2.2.2.2.1 a0.2.2.2.2.2.2.1 a0.2.2.2.2.2.2.2 a1.1 a1.2.1 a1.2.2 (0 : Int) (0 : Int) (0 : Int) (0 : Int) false (⟨#[]⟩ : ByteArray) y27.1 y27.2.1 y27.2.2.1 y27.2.2.2.1 y27.2.2.2.2.1 y27.2.2.2.2.2.1 ([] : List vab) ([] : List vaa) y27.2.2.2.2.2.2.1 y27.2.2.2.2.2.2.2 (Sum.elim (fun z30 =>
                k (y27.1, y27.2.1, y27.2.2.1, y27.2.2.2.1, y27.2.2.2.2.1, y27.2.2.2.2.2.1, z30.1, y27.2.2.2.2.2.2.1, z30.2)) (fun z31 =>
                k (z31.2.1, z31.2.2.1, z31.2.2.2.1, z31.2.2.2.2.1, z31.2.2.2.2.2.1, z31.2.2.2.2.2.2.1, z31.1, z31.2.2.2.2.2.2.2.1, z31.2.2.2.2.2.2.2.2.1))))))
theorem v8y {a0 : dTxn} {a1 : vaa}  {k : q22T → Option Res} : vot a0 a1 k = v0q a0 a1 k := by
  rw [v2f]
  simp only [vxs, v0q, vo8, Sum.elim_inl, Sum.elim_inr]
def vid (u0 : ByteArray) (u1 : Bool) : List Int → Nat → (((Bool × Int) ⊕ Int) → Option Res) → Option Res
  | [], i, k =>
    k (.inr (i : Int))
  | y :: l, i, k =>
    bif (decide (y < (97 : Int))) then
      k (.inl (false, (i : Int)))
    else
      bif (decide (y > (122 : Int))) then
        k (.inl (false, (i : Int)))
      else
        vid u0 u1 l (i + 1) k
theorem v5k {u0} {u1} (h0 : u0.size < 9223372036854775807) {K : ((ByteArray × Bool × Int) ⊕ (ByteArray × Bool × Int)) → Option Res} : ∀ (l : List Int) (i : Nat)  (n : Nat), (vbv u0).drop i = l → l.length < n → vai vhq n (u0, u1, (i : Int)) K = vid u0 u1 l  i (Sum.elim (fun z => K (.inl (u0, z.1, z.2))) (fun z => K (.inr (u0, u1, z)))) := by
  intro l
  induction l with
  | nil =>
    intro i  n hd hn
    have hge := v1j hd
    cases n with
    | zero => exact absurd hn (Nat.not_lt_zero _)
    | succ n => simp only [vai, vhq, vid, hge, decide_false, cond_false, Sum.elim_inr, Sum.elim_inl]
  | cons y l ih =>
    intro i  n hd hn
    obtain ⟨hlt, hz, hd2, hw, hnn⟩ := vxt hd h0
    have hy := v2s hd
    cases n with
    | zero => exact absurd hn (Nat.not_lt_zero _)
    | succ n =>
      have ih2 := ih (i + 1)  n hd2 (Nat.lt_of_succ_lt_succ hn)
      simp only [vai, vhq, vid, hlt, hz, decide_true, cond_true, and_self, if_true, hy, hw, hnn, Sum.elim_inl, Sum.elim_inr, ih2]
theorem v5p {u0} {u1} (h0 : u0.size < 9223372036854775807) {K : ((ByteArray × Bool × Int) ⊕ (ByteArray × Bool × Int)) → Option Res}  : vai vhq Fuel (u0, u1, (0 : Int)) K = vid u0 u1 (vbv u0)  0 (Sum.elim (fun z => K (.inl (u0, z.1, z.2))) (fun z => K (.inr (u0, u1, z)))) :=
  v5k h0 (vbv u0) 0  Fuel rfl (vyj h0)
def v2r (a0 : ByteArray) (k : Bool → Option Res) : Option Res :=
  vid a0 false (vbv a0)  0 (Sum.elim (fun z27 =>
    k z27.1) (fun _ =>
    vez (a0.size : Int) (1 : Int) (3 : Int) (fun y29 =>
      k y29)))
theorem v80 {a0 : ByteArray} (h0 : a0.size < 9223372036854775807) {k : Bool → Option Res} : vi7 a0 k = v2r a0 k := by
  rw [v2g]
  simp only [vxy, v2r, (v5p h0), Sum.elim_inl, Sum.elim_inr]
def vgl (u0 : (List vaa)) (u1 : Bool) (u2 : (List vaa)) : List vaa → Nat → (((Bool × Int) ⊕ Int) → Option Res) → Option Res
  | [], i, k =>
    k (.inr (i : Int))
  | y :: l, i, k =>
    vl0 y (fun y1 =>
      bif (!y1) then
        k (.inl (false, (i : Int)))
      else
        bif (decide ((i : Int) > (0 : Int))) then
          if 0 ≤ (IntKind.wrap .i64 ((i : Int) - (1 : Int))) ∧ (IntKind.wrap .i64 ((i : Int) - (1 : Int))) < (u0.length : Int) then
            bif (!(vac ((rd (Ty.zero tWrite) u0 (IntKind.wrap .i64 ((i : Int) - (1 : Int)))).1) (y.1))) then
              k (.inl (false, (i : Int)))
            else
              vgl u0 u1 u2 l (i + 1) k
          else none
        else
          vgl u0 u1 u2 l (i + 1) k)
theorem v5a {u0} {u1} {u2} (h0 : u2.length < 9223372036854775807) {K : (q4T ⊕ q4T) → Option Res} : ∀ (l : List vaa) (i : Nat)  (n : Nat), u2.drop i = l → l.length < n → vai vha n (u0, u1, u2, (u2.length : Int), (i : Int)) K = vgl u0 u1 u2 l  i (Sum.elim (fun z => K (.inl (u0, z.1, u2, (u2.length : Int), z.2))) (fun z => K (.inr (u0, u1, u2, (u2.length : Int), z)))) := by
  intro l
  induction l with
  | nil =>
    intro i  n hd hn
    have hge := vcq hd
    cases n with
    | zero => exact absurd hn (Nat.not_lt_zero _)
    | succ n => simp only [vai, vha, vgl, hge, decide_false, cond_false, Sum.elim_inr, Sum.elim_inl]
  | cons y l ih =>
    intro i  n hd hn
    obtain ⟨hlt, hz, hd2, hw, hnn⟩ := vbx hd h0
    have hy := vby hd
    cases n with
    | zero => exact absurd hn (Nat.not_lt_zero _)
    | succ n =>
      have ih2 := ih (i + 1)  n hd2 (Nat.lt_of_succ_lt_succ hn)
      simp only [vai, vha, vgl, hlt, hz, decide_true, cond_true, and_self, if_true, hy, hw, hnn, Sum.elim_inl, Sum.elim_inr, ih2]
theorem v5b {u0} {u1} {u2} (h0 : u2.length < 9223372036854775807) {K : (q4T ⊕ q4T) → Option Res}  : vai vha Fuel (u0, u1, u2, (u2.length : Int), (0 : Int)) K = vgl u0 u1 u2 u2  0 (Sum.elim (fun z => K (.inl (u0, z.1, u2, (u2.length : Int), z.2))) (fun z => K (.inr (u0, u1, u2, (u2.length : Int), z)))) :=
  v5a h0 u2 0  Fuel rfl (vb2 h0)
def v1s (a0 : (List vaa)) (k : Bool → Option Res) : Option Res :=
  vgl a0 false a0 a0  0 (Sum.elim (fun z27 =>
    k z27.1) (fun _ =>
    k (decide ((a0.length : Int) ≤ (8 : Int)))))
theorem v8t {a0 : (List vaa)} (h0 : a0.length < 9223372036854775807) {k : Bool → Option Res} : vm5 a0 k = v1s a0 k := by
  rw [v3d]
  simp only [vx7, v1s, (v5b h0), Sum.elim_inl, Sum.elim_inr]
def vbo (u0 : Bool) (u1 : Int) (u2 : Int) (u3 : Int) (u4 : Int) (u5 : (List vab)) (u6 : (List vaa)) (u7 : Bool) (u8 : ByteArray) (k : Bool → Option Res) : Option Res :=
    bif (u2 == (2 : Int)) then
      vi7 u8 (fun y1 =>
        bif y1 then
          k true
        else
          bif (u2 != (2 : Int)) then
            k (vay u8 (⟨#[]⟩ : ByteArray))
          else
            k false)
    else
      bif (u2 != (2 : Int)) then
        k (vay u8 (⟨#[]⟩ : ByteArray))
      else
        k false
theorem vo6 {u0} {u1} {u2} {u3} {u4} {u5} {u6} {u7} {u8}  {K : q14T → Option Res} : vbe (u0, u1, u2, u3, u4, u5, u6, u7, u8) K = vbo u0 u1 u2 u3 u4 u5 u6 u7 u8 (fun z => K (z, u1, u2, u3, u4, u5, u6, u7, u8)) := by
  simp only [vbe, vbo, Sum.elim_inl, Sum.elim_inr]
def vcs (u0 : Bool) (u1 : Int) (u2 : Int) (u3 : Int) (u4 : Int) (u5 : (List vab)) (u6 : (List vaa)) (u7 : Bool) (u8 : ByteArray) (k : Bool → Option Res) : Option Res :=
    bif (u2 == (3 : Int)) then
      vez u4 (IntKind.wrap .i64 (u3 + (1 : Int))) (9999 : Int) (fun y1 =>
        bif (!y1) then
          k false
        else
          bif (u2 != (3 : Int)) then
            bif (u4 != (0 : Int)) then
              k false
            else
              vbo u0 u1 u2 u3 u4 u5 u6 u7 u8 (fun z2 =>
                k z2)
          else
            vbo u0 u1 u2 u3 u4 u5 u6 u7 u8 (fun z3 =>
              k z3))
    else
      bif (u2 != (3 : Int)) then
        bif (u4 != (0 : Int)) then
          k false
        else
          vbo u0 u1 u2 u3 u4 u5 u6 u7 u8 (fun z4 =>
            k z4)
      else
        vbo u0 u1 u2 u3 u4 u5 u6 u7 u8 (fun z5 =>
          k z5)
theorem vpe {u0} {u1} {u2} {u3} {u4} {u5} {u6} {u7} {u8}  {K : q14T → Option Res} : vb0 (u0, u1, u2, u3, u4, u5, u6, u7, u8) K = vcs u0 u1 u2 u3 u4 u5 u6 u7 u8 (fun z => K (z, u1, u2, u3, u4, u5, u6, u7, u8)) := by
  simp only [vb0, vcs, vo6, Sum.elim_inl, Sum.elim_inr]
def vhi (u0 : Bool) (u1 : (List vab)) (u4 : Int) (u5 : Int) (u6 : Int) (u7 : Int) (u8 : (List vab)) (u9 : (List vaa)) (u10 : Bool) (u11 : ByteArray) : List vab → Nat → (((Bool × Int) ⊕ Int) → Option Res) → Option Res
  | [], i, k =>
    k (.inr (i : Int))
  | y :: l, i, k =>
    vpz y (fun y1 =>
      bif (!y1) then
        k (.inl (false, (i : Int)))
      else
        vhi u0 u1 u4 u5 u6 u7 u8 u9 u10 u11 l (i + 1) k)
theorem v5r {u0} {u1} {u4} {u5} {u6} {u7} {u8} {u9} {u10} {u11} (h0 : u1.length < 9223372036854775807) {K : (q9T ⊕ q9T) → Option Res} : ∀ (l : List vab) (i : Nat)  (n : Nat), u1.drop i = l → l.length < n → vai vil n (u0, u1, (u1.length : Int), (i : Int), u4, u5, u6, u7, u8, u9, u10, u11) K = vhi u0 u1 u4 u5 u6 u7 u8 u9 u10 u11 l  i (Sum.elim (fun z => K (.inl (z.1, u1, (u1.length : Int), z.2, u4, u5, u6, u7, u8, u9, u10, u11))) (fun z => K (.inr (u0, u1, (u1.length : Int), z, u4, u5, u6, u7, u8, u9, u10, u11)))) := by
  intro l
  induction l with
  | nil =>
    intro i  n hd hn
    have hge := vcq hd
    cases n with
    | zero => exact absurd hn (Nat.not_lt_zero _)
    | succ n => simp only [vai, vil, vhi, hge, decide_false, cond_false, Sum.elim_inr, Sum.elim_inl]
  | cons y l ih =>
    intro i  n hd hn
    obtain ⟨hlt, hz, hd2, hw, hnn⟩ := vbx hd h0
    have hy := vby hd
    cases n with
    | zero => exact absurd hn (Nat.not_lt_zero _)
    | succ n =>
      have ih2 := ih (i + 1)  n hd2 (Nat.lt_of_succ_lt_succ hn)
      simp only [vai, vil, vhi, hlt, hz, decide_true, cond_true, and_self, if_true, hy, hw, hnn, Sum.elim_inl, Sum.elim_inr, ih2]
theorem v47 {u0} {u1} {u4} {u5} {u6} {u7} {u8} {u9} {u10} {u11} (h0 : u1.length < 9223372036854775807) {K : (q9T ⊕ q9T) → Option Res}  : vai vil Fuel (u0, u1, (u1.length : Int), (0 : Int), u4, u5, u6, u7, u8, u9, u10, u11) K = vhi u0 u1 u4 u5 u6 u7 u8 u9 u10 u11 u1  0 (Sum.elim (fun z => K (.inl (z.1, u1, (u1.length : Int), z.2, u4, u5, u6, u7, u8, u9, u10, u11))) (fun z => K (.inr (u0, u1, (u1.length : Int), z, u4, u5, u6, u7, u8, u9, u10, u11)))) :=
  v5r h0 u1 0  Fuel rfl (vb2 h0)
def v0d (a0 : dTxn) (k : Bool → Option Res) : Option Res :=
  vhi false a0.2.2.2.2.1 a0.1 a0.2.1 a0.2.2.1 a0.2.2.2.1 a0.2.2.2.2.1 a0.2.2.2.2.2.1 a0.2.2.2.2.2.2.1 a0.2.2.2.2.2.2.2 a0.2.2.2.2.1  0 (Sum.elim (fun z27 =>
    k z27.1) (fun _ =>
    vez a0.1 (1 : Int) (9999 : Int) (fun y29 =>
      bif (!y29) then
        k false
      else
        vez a0.2.1 (1 : Int) (3 : Int) (fun y30 =>
          bif (!y30) then
            k false
          else
            vez a0.2.2.1 (0 : Int) (9999 : Int) (fun y31 =>
              bif (!y31) then
                k false
              else
                bif (decide ((a0.2.2.2.2.1.length : Int) > (8 : Int))) then
                  k false
                else
                  vm5 a0.2.2.2.2.2.1 (fun y32 =>
                    bif (!y32) then
                      k false
                    else
                      bif a0.2.2.2.2.2.2.1 then
                        bif (a0.2.1 == (1 : Int)) then
                          k false
                        else
                          vcs false a0.1 a0.2.1 a0.2.2.1 a0.2.2.2.1 a0.2.2.2.2.1 a0.2.2.2.2.2.1 a0.2.2.2.2.2.2.1 a0.2.2.2.2.2.2.2 (fun z33 =>
                            k z33)
                      else
                        vcs false a0.1 a0.2.1 a0.2.2.1 a0.2.2.2.1 a0.2.2.2.2.1 a0.2.2.2.2.2.1 a0.2.2.2.2.2.2.1 a0.2.2.2.2.2.2.2 (fun z34 =>
                          k z34)))))))
theorem v81 {a0 : dTxn} (h0 : a0.2.2.2.2.1.length < 9223372036854775807) {k : Bool → Option Res} : vkg a0 k = v0d a0 k := by
  rw [v0f]
  simp only [vxq, v0d, vpe, (v47 h0), Sum.elim_inl, Sum.elim_inr]
def vdn (u0 : Bool) (u1 : Int) (u2 : Int) (u3 : Int) (u4 : Int) (u5 : (List vab)) (u6 : (List vaa)) (u7 : Bool) (u8 : ByteArray) (u9 : ByteArray) (u10 : ByteArray) (u11 : Bool) (u12 : Int) (u13 : Int) (u14 : Int) (u15 : Int) (u16 : Bool) (u17 : ByteArray) (u18 : Int) (u19 : Int) (u20 : Int) (u21 : Int) (u22 : Bool) (u23 : ByteArray) (u24 : (List vab)) (u25 : (List vaa)) (u26 : (List vab)) (u27 : (List vaa)) (k : ((Bool × (List vaa)) ⊕ q15T) → Option Res) : Option Res :=
    vqj u6 (u9, (u10, u11)) (fun y1 =>
      vkg (u18, (u19, (u20, (u21, (u26, (y1, (u22, u23))))))) (fun y2 =>
        bif (!y2) then
          vl5 (u1, (u2, (u3, (u4, (u5, (u6, (u7, u8))))))) (fun y3 =>
            k (.inr (false, y3.1, y3.2.1, y3.2.2.1, y3.2.2.2.1, y3.2.2.2.2.1, y3.2.2.2.2.2.1, y3.2.2.2.2.2.2.1, y3.2.2.2.2.2.2.2, y1)))
        else
          k (.inl (true, y1))))
theorem vo9 {u0} {u1} {u2} {u3} {u4} {u5} {u6} {u7} {u8} {u9} {u10} {u11} {u12} {u13} {u14} {u15} {u16} {u17} {u18} {u19} {u20} {u21} {u22} {u23} {u24} {u25} {u26} {u27}  {K : (q13T ⊕ q12T) → Option Res} : vce (u0, u1, u2, u3, u4, u5, u6, u7, u8, u9, u10, u11, u12, u13, u14, u15, u16, u17, u18, u19, u20, u21, u22, u23, u24, u25, u26, u27) K = vdn u0 u1 u2 u3 u4 u5 u6 u7 u8 u9 u10 u11 u12 u13 u14 u15 u16 u17 u18 u19 u20 u21 u22 u23 u24 u25 u26 u27 (Sum.elim (fun z => K (.inl (z.1, u1, u2, u3, u4, u5, u6, u7, u8, u9, u10, u11, u18, u19, u20, u21, u22, u23, u18, u19, u20, u21, u22, u23, u26, z.2))) (fun z => K (.inr (z.1, u1, u2, u3, u4, u5, u6, u7, u8, u9, u10, u11, z.2.1, z.2.2.1, z.2.2.2.1, z.2.2.2.2.1, z.2.2.2.2.2.1, z.2.2.2.2.2.2.1, u18, u19, u20, u21, u22, u23, z.2.2.2.2.2.2.2.1, z.2.2.2.2.2.2.2.2.1, u26, z.2.2.2.2.2.2.2.2.2)))) := by
  simp only [vce, vdn, Sum.elim_inl, Sum.elim_inr]
def v12 (a0 : dTxn) (a1 : vaa) (k : q22T → Option Res) : Option Res :=
  vl5 a0 (fun y27 =>
    vkg a0 (fun y28 =>
      bif (!y28) then
        k (y27.1, y27.2.1, y27.2.2.1, y27.2.2.2.1, y27.2.2.2.2.1, y27.2.2.2.2.2.1, false, y27.2.2.2.2.2.2.1, y27.2.2.2.2.2.2.2)
      else
        bif (a0.2.1 != (1 : Int)) then
          k (y27.1, y27.2.1, y27.2.2.1, y27.2.2.2.1, y27.2.2.2.2.1, y27.2.2.2.2.2.1, false, y27.2.2.2.2.2.2.1, y27.2.2.2.2.2.2.2)
        else
          vl0 a1 (fun y29 =>
            bif (!y29) then
              k (y27.1, y27.2.1, y27.2.2.1, y27.2.2.2.1, y27.2.2.2.2.1, y27.2.2.2.2.2.1, false, y27.2.2.2.2.2.2.1, y27.2.2.2.2.2.2.2)
            else
              vdn false a0.1 a0.2.1 a0.2.2.1 a0.2.2.2.1 a0.2.2.2.2.1 a0.2.2.2.2.2.1 a0.2.2.2.2.2.2.1 a0.2.2.2.2.2.2.2 a1.1 a1.2.1 a1.2.2 (0 : Int) (0 : Int) (0 : Int) (0 : Int) false (⟨#[]⟩ : ByteArray) y27.1 y27.2.1 y27.2.2.1 y27.2.2.2.1 y27.2.2.2.2.1 y27.2.2.2.2.2.1 ([] : List vab) ([] : List vaa) y27.2.2.2.2.2.2.1 y27.2.2.2.2.2.2.2 (Sum.elim (fun z30 =>
                k (y27.1, y27.2.1, y27.2.2.1, y27.2.2.2.1, y27.2.2.2.2.1, y27.2.2.2.2.2.1, z30.1, y27.2.2.2.2.2.2.1, z30.2)) (fun z31 =>
                k (z31.2.1, z31.2.2.1, z31.2.2.2.1, z31.2.2.2.2.1, z31.2.2.2.2.2.1, z31.2.2.2.2.2.2.1, z31.1, z31.2.2.2.2.2.2.2.1, z31.2.2.2.2.2.2.2.2.1))))))
theorem v88 {a0 : dTxn} {a1 : vaa}  {k : q22T → Option Res} : vkh a0 a1 k = v12 a0 a1 k := by
  rw [v0h]
  simp only [vxa, v12, vo9, Sum.elim_inl, Sum.elim_inr]
def vhe (u0 : (List vab)) (u1 : (List vab)) (u2 : Bool) : List vab → Nat → (((Bool × Int) ⊕ Int) → Option Res) → Option Res
  | [], i, k =>
    k (.inr (i : Int))
  | y :: l, i, k =>
    if 0 ≤ (i : Int) ∧ (i : Int) < (u1.length : Int) then
      vqd y (rd (Ty.zero tRange) u1 (i : Int)) (fun y1 =>
        bif (!y1) then
          k (.inl (false, (i : Int)))
        else
          vhe u0 u1 u2 l (i + 1) k)
    else none
theorem v37 {u0} {u1} {u2} (h0 : u0.length < 9223372036854775807) {K : (q0T ⊕ q0T) → Option Res} : ∀ (l : List vab) (i : Nat)  (n : Nat), u0.drop i = l → l.length < n → vai vig n (u0, u1, u2, (i : Int)) K = vhe u0 u1 u2 l  i (Sum.elim (fun z => K (.inl (u0, u1, z.1, z.2))) (fun z => K (.inr (u0, u1, u2, z)))) := by
  intro l
  induction l with
  | nil =>
    intro i  n hd hn
    have hge := vcq hd
    cases n with
    | zero => exact absurd hn (Nat.not_lt_zero _)
    | succ n => simp only [vai, vig, vhe, hge, decide_false, cond_false, Sum.elim_inr, Sum.elim_inl]
  | cons y l ih =>
    intro i  n hd hn
    obtain ⟨hlt, hz, hd2, hw, hnn⟩ := vbx hd h0
    have hy := vby hd
    cases n with
    | zero => exact absurd hn (Nat.not_lt_zero _)
    | succ n =>
      have ih2 := ih (i + 1)  n hd2 (Nat.lt_of_succ_lt_succ hn)
      simp only [vai, vig, vhe, hlt, hz, decide_true, cond_true, and_self, if_true, hy, hw, hnn, Sum.elim_inl, Sum.elim_inr, ih2]
theorem v31 {u0} {u1} {u2} (h0 : u0.length < 9223372036854775807) {K : (q0T ⊕ q0T) → Option Res}  : vai vig Fuel (u0, u1, u2, (0 : Int)) K = vhe u0 u1 u2 u0  0 (Sum.elim (fun z => K (.inl (u0, u1, z.1, z.2))) (fun z => K (.inr (u0, u1, u2, z)))) :=
  v37 h0 u0 0  Fuel rfl (vb2 h0)
def v02 (a0 : (List vab)) (a1 : (List vab)) (k : Bool → Option Res) : Option Res :=
  bif ((a0.length : Int) != (a1.length : Int)) then
    k false
  else
    vhe a0 a1 false a0  0 (Sum.elim (fun z27 =>
      k z27.1) (fun _ =>
      k true))
theorem v77 {a0 : (List vab)} {a1 : (List vab)} (h0 : a0.length < 9223372036854775807) {k : Bool → Option Res} : vq4 a0 a1 k = v02 a0 a1 k := by
  rw [v1y]
  simp only [vx6, v02, (v31 h0), Sum.elim_inl, Sum.elim_inr]
def vh5 (u0 : (List vaa)) (u1 : (List vaa)) (u2 : Bool) : List vaa → Nat → (((Bool × Int) ⊕ Int) → Option Res) → Option Res
  | [], i, k =>
    k (.inr (i : Int))
  | y :: l, i, k =>
    if 0 ≤ (i : Int) ∧ (i : Int) < (u1.length : Int) then
      vq9 y (rd (Ty.zero tWrite) u1 (i : Int)) (fun y1 =>
        bif (!y1) then
          k (.inl (false, (i : Int)))
        else
          vh5 u0 u1 u2 l (i + 1) k)
    else none
theorem v4v {u0} {u1} {u2} (h0 : u0.length < 9223372036854775807) {K : (q3T ⊕ q3T) → Option Res} : ∀ (l : List vaa) (i : Nat)  (n : Nat), u0.drop i = l → l.length < n → vai vhh n (u0, u1, u2, (i : Int)) K = vh5 u0 u1 u2 l  i (Sum.elim (fun z => K (.inl (u0, u1, z.1, z.2))) (fun z => K (.inr (u0, u1, u2, z)))) := by
  intro l
  induction l with
  | nil =>
    intro i  n hd hn
    have hge := vcq hd
    cases n with
    | zero => exact absurd hn (Nat.not_lt_zero _)
    | succ n => simp only [vai, vhh, vh5, hge, decide_false, cond_false, Sum.elim_inr, Sum.elim_inl]
  | cons y l ih =>
    intro i  n hd hn
    obtain ⟨hlt, hz, hd2, hw, hnn⟩ := vbx hd h0
    have hy := vby hd
    cases n with
    | zero => exact absurd hn (Nat.not_lt_zero _)
    | succ n =>
      have ih2 := ih (i + 1)  n hd2 (Nat.lt_of_succ_lt_succ hn)
      simp only [vai, vhh, vh5, hlt, hz, decide_true, cond_true, and_self, if_true, hy, hw, hnn, Sum.elim_inl, Sum.elim_inr, ih2]
theorem v3j {u0} {u1} {u2} (h0 : u0.length < 9223372036854775807) {K : (q3T ⊕ q3T) → Option Res}  : vai vhh Fuel (u0, u1, u2, (0 : Int)) K = vh5 u0 u1 u2 u0  0 (Sum.elim (fun z => K (.inl (u0, u1, z.1, z.2))) (fun z => K (.inr (u0, u1, u2, z)))) :=
  v4v h0 u0 0  Fuel rfl (vb2 h0)
def v0k (a0 : (List vaa)) (a1 : (List vaa)) (k : Bool → Option Res) : Option Res :=
  bif ((a0.length : Int) != (a1.length : Int)) then
    k false
  else
    vh5 a0 a1 false a0  0 (Sum.elim (fun z27 =>
      k z27.1) (fun _ =>
      k true))
theorem v9i {a0 : (List vaa)} {a1 : (List vaa)} (h0 : a0.length < 9223372036854775807) {k : Bool → Option Res} : vp4 a0 a1 k = v0k a0 a1 k := by
  rw [v1r]
  simp only [vx0, v0k, (v3j h0), Sum.elim_inl, Sum.elim_inr]
def vgg (u0 : (List vab)) (u2 : Int) : List vab → Int → Nat → (((Int × Int × Int) ⊕ (Int × Int)) → Option Res) → Option Res
  | [], s1, i, k =>
    k (.inr (s1, (i : Int)))
  | y :: l, s1, i, k =>
    vdb s1 (fun y1 =>
      bif (!(vay (y.1) y1)) then
        k (.inl (s1, (-1 : Int), (i : Int)))
      else
        vdb (IntKind.wrap .i64 (s1 + (1 : Int))) (fun y2 =>
          bif (!(vay (y.2) y2)) then
            k (.inl ((IntKind.wrap .i64 (s1 + (1 : Int))), (-1 : Int), (i : Int)))
          else
            vgg u0 u2 l (IntKind.wrap .i64 ((IntKind.wrap .i64 (s1 + (1 : Int))) + (1 : Int))) (i + 1) k))
theorem v4a {u0} {u2} (h0 : u0.length < 9223372036854775807) {K : (q2T ⊕ q2T) → Option Res} : ∀ (l : List vab) (i : Nat) (s1 : Int) (n : Nat), u0.drop i = l → l.length < n → vai vhy n (u0, s1, u2, (i : Int)) K = vgg u0 u2 l s1 i (Sum.elim (fun z => K (.inl (u0, z.1, z.2.1, z.2.2))) (fun z => K (.inr (u0, z.1, u2, z.2)))) := by
  intro l
  induction l with
  | nil =>
    intro i s1 n hd hn
    have hge := vcq hd
    cases n with
    | zero => exact absurd hn (Nat.not_lt_zero _)
    | succ n => simp only [vai, vhy, vgg, hge, decide_false, cond_false, Sum.elim_inr, Sum.elim_inl]
  | cons y l ih =>
    intro i s1 n hd hn
    obtain ⟨hlt, hz, hd2, hw, hnn⟩ := vbx hd h0
    have hy := vby hd
    cases n with
    | zero => exact absurd hn (Nat.not_lt_zero _)
    | succ n =>
      have ih2 := fun (s1 : Int) => ih (i + 1) s1 n hd2 (Nat.lt_of_succ_lt_succ hn)
      simp only [vai, vhy, vgg, hlt, hz, decide_true, cond_true, and_self, if_true, hy, hw, hnn, Sum.elim_inl, Sum.elim_inr, ih2]
theorem v4w {u0} {u2} (h0 : u0.length < 9223372036854775807) {K : (q2T ⊕ q2T) → Option Res} {s1 : Int} : vai vhy Fuel (u0, s1, u2, (0 : Int)) K = vgg u0 u2 u0 s1 0 (Sum.elim (fun z => K (.inl (u0, z.1, z.2.1, z.2.2))) (fun z => K (.inr (u0, z.1, u2, z.2)))) :=
  v4a h0 u0 0 s1 Fuel rfl (vb2 h0)
def v2i (a0 : (List vab)) (a1 : Int) (k : Int → Option Res) : Option Res :=
  vgg a0 (0 : Int) a0 a1 0 (Sum.elim (fun z27 =>
    k z27.2.1) (fun z28 =>
    k z28.1))
theorem v79 {a0 : (List vab)} {a1 : Int} (h0 : a0.length < 9223372036854775807) {k : Int → Option Res} : vqn a0 a1 k = v2i a0 a1 k := by
  rw [v0v]
  simp only [vxw, v2i, (v4w h0), Sum.elim_inl, Sum.elim_inr]
def vgh (u0 : (List vaa)) (u2 : Int) : List vaa → Int → Nat → (((Int × Int × Int) ⊕ (Int × Int)) → Option Res) → Option Res
  | [], s1, i, k =>
    k (.inr (s1, (i : Int)))
  | y :: l, s1, i, k =>
    vdb s1 (fun y1 =>
      bif (!(vay (y.1) y1)) then
        k (.inl (s1, (-1 : Int), (i : Int)))
      else
        vdb (IntKind.wrap .i64 (s1 + (1 : Int))) (fun y2 =>
          bif (!(vay (y.2.1) y2)) then
            k (.inl ((IntKind.wrap .i64 (s1 + (1 : Int))), (-1 : Int), (i : Int)))
          else
            bif (!(y.2.2 == (((IntKind.wrap .i64 ((IntKind.wrap .i64 (s1 + (1 : Int))) + (1 : Int))).tmod (3 : Int)) == (0 : Int)))) then
              k (.inl ((IntKind.wrap .i64 ((IntKind.wrap .i64 (s1 + (1 : Int))) + (1 : Int))), (-1 : Int), (i : Int)))
            else
              vgh u0 u2 l (IntKind.wrap .i64 ((IntKind.wrap .i64 ((IntKind.wrap .i64 (s1 + (1 : Int))) + (1 : Int))) + (1 : Int))) (i + 1) k))
theorem v41 {u0} {u2} (h0 : u0.length < 9223372036854775807) {K : (q7T ⊕ q7T) → Option Res} : ∀ (l : List vaa) (i : Nat) (s1 : Int) (n : Nat), u0.drop i = l → l.length < n → vai vhl n (u0, s1, u2, (i : Int)) K = vgh u0 u2 l s1 i (Sum.elim (fun z => K (.inl (u0, z.1, z.2.1, z.2.2))) (fun z => K (.inr (u0, z.1, u2, z.2)))) := by
  intro l
  induction l with
  | nil =>
    intro i s1 n hd hn
    have hge := vcq hd
    cases n with
    | zero => exact absurd hn (Nat.not_lt_zero _)
    | succ n => simp only [vai, vhl, vgh, hge, decide_false, cond_false, Sum.elim_inr, Sum.elim_inl]
  | cons y l ih =>
    intro i s1 n hd hn
    obtain ⟨hlt, hz, hd2, hw, hnn⟩ := vbx hd h0
    have hy := vby hd
    cases n with
    | zero => exact absurd hn (Nat.not_lt_zero _)
    | succ n =>
      have ih2 := fun (s1 : Int) => ih (i + 1) s1 n hd2 (Nat.lt_of_succ_lt_succ hn)
      simp only [vai, vhl, vgh, hlt, hz, decide_true, cond_true, and_self, if_true, hy, hw, hnn, Sum.elim_inl, Sum.elim_inr, ih2]
theorem v4q {u0} {u2} (h0 : u0.length < 9223372036854775807) {K : (q7T ⊕ q7T) → Option Res} {s1 : Int} : vai vhl Fuel (u0, s1, u2, (0 : Int)) K = vgh u0 u2 u0 s1 0 (Sum.elim (fun z => K (.inl (u0, z.1, z.2.1, z.2.2))) (fun z => K (.inr (u0, z.1, u2, z.2)))) :=
  v41 h0 u0 0 s1 Fuel rfl (vb2 h0)
def v0s (a0 : (List vaa)) (a1 : Int) (k : Int → Option Res) : Option Res :=
  vgh a0 (0 : Int) a0 a1 0 (Sum.elim (fun z27 =>
    k z27.2.1) (fun z28 =>
    k z28.1))
theorem v9q {a0 : (List vaa)} {a1 : Int} (h0 : a0.length < 9223372036854775807) {k : Int → Option Res} : vp6 a0 a1 k = v0s a0 a1 k := by
  rw [v16]
  simp only [vx5, v0s, (v4q h0), Sum.elim_inl, Sum.elim_inr]
def vdp (u0 : Bool) (u1 : Int) (u2 : Int) (u3 : Int) (u4 : Int) (u5 : Int) (u6 : Bool) (u7 : ByteArray) (u8 : (List vab)) (u9 : (List vaa)) (k : Bool → Option Res) : Option Res :=
    vma (u2, (u3, (u4, (u5, (u8, (u9, (u6, u7))))))) (1 : Int) (fun y1 =>
      bif (decide (y1 < (0 : Int))) then
        k false
      else
        bif (y1 != u1) then
          k false
        else
          k true)
theorem vpp {u0} {u1} {u2} {u3} {u4} {u5} {u6} {u7} {u8} {u9}  {K : q18T → Option Res} : vcm (u0, u1, u2, u3, u4, u5, u6, u7, u8, u9) K = vdp u0 u1 u2 u3 u4 u5 u6 u7 u8 u9 (fun z => K (z, u1, u2, u3, u4, u5, u6, u7, u8, u9)) := by
  simp only [vcm, vdp, Sum.elim_inl, Sum.elim_inr]
def vdo (u0 : Bool) (u1 : Bool) (u2 : Int) (u3 : Int) (u4 : Int) (u5 : Int) (u6 : (List vab)) (u7 : (List vaa)) (u8 : Bool) (u9 : ByteArray) (u10 : ByteArray) (u11 : ByteArray) (u12 : Bool) (u13 : Int) (u14 : Int) (u15 : Int) (u16 : Int) (u17 : Bool) (u18 : ByteArray) (u19 : Int) (u20 : Int) (u21 : Int) (u22 : Int) (u23 : Bool) (u24 : ByteArray) (u25 : (List vab)) (u26 : (List vaa)) (u27 : (List vab)) (u28 : (List vaa)) (k : (q8T ⊕ q8T) → Option Res) : Option Res :=
    vl6 u19 u20 u21 u22 u23 u24 (1 : Int) u27 u28 (fun y1 =>
      vma (u19, (u20, (u21, (u22, (y1.2.1, (y1.2.2, (u23, u24))))))) (1 : Int) (fun y2 =>
        bif (decide (y2 < (0 : Int))) then
          k (.inl (false, y1.2.1, y1.2.2))
        else
          bif (y2 != y1.1) then
            k (.inl (false, y1.2.1, y1.2.2))
          else
            vgc (u2, (u3, (u4, (u5, (u6, (u7, (u8, u9))))))) (fun y3 =>
              vg2 (u10, (u11, u12)) (fun y4 =>
                vkh (y3.1, (y3.2.1, (y3.2.2.1, (y3.2.2.2.1, (y3.2.2.2.2.2.2.1, (y3.2.2.2.2.2.2.2, (y3.2.2.2.2.1, y3.2.2.2.2.2.1))))))) y4 (fun y5 =>
                  vfw (y5.1, (y5.2.1, (y5.2.2.1, (y5.2.2.2.1, (y5.2.2.2.2.2.2.2.1, (y5.2.2.2.2.2.2.2.2, (y5.2.2.2.2.1, y5.2.2.2.2.2.1))))))) (u13, (u14, (u15, (u16, (u25, (u26, (u17, u18))))))) (fun y6 =>
                    bif (!y6) then
                      k (.inl (false, y1.2.1, y1.2.2))
                    else
                      bif (!(y5.2.2.2.2.2.2.1 == u1)) then
                        k (.inl (false, y1.2.1, y1.2.2))
                      else
                        vdp u0 y1.1 u19 u20 u21 u22 u23 u24 y1.2.1 y1.2.2 (fun z7 =>
                          k (.inr (z7, y1.2.1, y1.2.2)))))))))
theorem vpr {u0} {u1} {u2} {u3} {u4} {u5} {u6} {u7} {u8} {u9} {u10} {u11} {u12} {u13} {u14} {u15} {u16} {u17} {u18} {u19} {u20} {u21} {u22} {u23} {u24} {u25} {u26} {u27} {u28}  {K : (q11T ⊕ q16T) → Option Res} : vch (u0, u1, u2, u3, u4, u5, u6, u7, u8, u9, u10, u11, u12, u13, u14, u15, u16, u17, u18, u19, u20, u21, u22, u23, u24, u25, u26, u27, u28) K = vdo u0 u1 u2 u3 u4 u5 u6 u7 u8 u9 u10 u11 u12 u13 u14 u15 u16 u17 u18 u19 u20 u21 u22 u23 u24 u25 u26 u27 u28 (Sum.elim (fun z => K (.inl (z.1, u1, u2, u3, u4, u5, u6, u7, u8, u9, u10, u11, u12, u13, u14, u15, u16, u17, u18, u19, u20, u21, u22, u23, u24, u25, u26, z.2.1, z.2.2))) (fun z => K (.inr (z.1, u19, u20, u21, u22, u23, u24, z.2.1, z.2.2)))) := by
  simp only [vch, vdo, vpp, Sum.elim_inl, Sum.elim_inr]
def vdm (u0 : Bool) (u1 : Bool) (u2 : Bool) (u3 : Int) (u4 : Int) (u5 : Int) (u6 : Int) (u7 : (List vab)) (u8 : (List vaa)) (u9 : Bool) (u10 : ByteArray) (u11 : ByteArray) (u12 : ByteArray) (u13 : Bool) (u14 : Int) (u15 : Int) (u16 : Int) (u17 : Int) (u18 : Bool) (u19 : ByteArray) (u20 : Int) (u21 : Int) (u22 : Int) (u23 : Int) (u24 : Bool) (u25 : ByteArray) (u26 : Int) (u27 : Int) (u28 : Int) (u29 : Int) (u30 : Bool) (u31 : ByteArray) (u32 : (List vab)) (u33 : (List vaa)) (u34 : (List vab)) (u35 : (List vaa)) (u36 : (List vab)) (u37 : (List vaa)) (k : (q8T ⊕ (q8T ⊕ q8T)) → Option Res) : Option Res :=
    vgc (u3, (u4, (u5, (u6, (u7, (u8, (u9, u10))))))) (fun y1 =>
      vfw (u20, (u21, (u22, (u23, (u34, (u35, (u24, u25))))))) (y1.1, (y1.2.1, (y1.2.2.1, (y1.2.2.2.1, (y1.2.2.2.2.2.2.1, (y1.2.2.2.2.2.2.2, (y1.2.2.2.2.1, y1.2.2.2.2.2.1))))))) (fun y2 =>
        bif (!y2) then
          k (.inl (false, u34, u35))
        else
          vl6 u20 u21 u22 u23 u24 u25 (1 : Int) u34 u35 (fun y3 =>
            bif (decide (y3.1 < (0 : Int))) then
              k (.inl (false, y3.2.1, y3.2.2))
            else
              vfw (u26, (u27, (u28, (u29, (u36, (u37, (u30, u31))))))) (u14, (u15, (u16, (u17, (u32, (u33, (u18, u19))))))) (fun y4 =>
                bif (!y4) then
                  k (.inl (false, y3.2.1, y3.2.2))
                else
                  bif (!(u2 == u1)) then
                    k (.inl (false, y3.2.1, y3.2.2))
                  else
                    vdo u0 u1 u3 u4 u5 u6 u7 u8 u9 u10 u11 u12 u13 u14 u15 u16 u17 u18 u19 u26 u27 u28 u29 u30 u31 u32 u33 u36 u37 (Sum.elim (fun z5 =>
                      k (.inr (.inl (z5.1, z5.2.1, z5.2.2)))) (fun z6 =>
                      k (.inr (.inr (z6.1, z6.2.1, z6.2.2)))))))))
theorem vpw {u0} {u1} {u2} {u3} {u4} {u5} {u6} {u7} {u8} {u9} {u10} {u11} {u12} {u13} {u14} {u15} {u16} {u17} {u18} {u19} {u20} {u21} {u22} {u23} {u24} {u25} {u26} {u27} {u28} {u29} {u30} {u31} {u32} {u33} {u34} {u35} {u36} {u37}  {K : (q10T ⊕ (q11T ⊕ q16T)) → Option Res} : vcf (u0, u1, u2, u3, u4, u5, u6, u7, u8, u9, u10, u11, u12, u13, u14, u15, u16, u17, u18, u19, u20, u21, u22, u23, u24, u25, u26, u27, u28, u29, u30, u31, u32, u33, u34, u35, u36, u37) K = vdm u0 u1 u2 u3 u4 u5 u6 u7 u8 u9 u10 u11 u12 u13 u14 u15 u16 u17 u18 u19 u20 u21 u22 u23 u24 u25 u26 u27 u28 u29 u30 u31 u32 u33 u34 u35 u36 u37 (Sum.elim (fun z => K (.inl (z.1, u1, u2, u3, u4, u5, u6, u7, u8, u9, u10, u11, u12, u13, u14, u15, u16, u17, u18, u19, u20, u21, u22, u23, u24, u25, u26, u27, u28, u29, u30, u31, u32, u33, z.2.1, z.2.2, u36, u37))) (Sum.elim (fun z => K (.inr (.inl (z.1, u1, u3, u4, u5, u6, u7, u8, u9, u10, u11, u12, u13, u14, u15, u16, u17, u18, u19, u26, u27, u28, u29, u30, u31, u32, u33, z.2.1, z.2.2)))) (fun z => K (.inr (.inr (z.1, u26, u27, u28, u29, u30, u31, z.2.1, z.2.2)))))) := by
  simp only [vcf, vdm, vpr, Sum.elim_inl, Sum.elim_inr]
def v2q (a0 : dTxn) (a1 : vaa) (k : Bool → Option Res) : Option Res :=
  vro a0 (1048576 : Int) (fun y27 =>
    bif (decide (y27 < (0 : Int))) then
      k true
    else
      vl3 a1 y27 (fun y28 =>
        bif (decide (y28 < (0 : Int))) then
          k true
        else
          vgc a0 (fun y29 =>
            vg2 a1 (fun y30 =>
              vot (y29.1, (y29.2.1, (y29.2.2.1, (y29.2.2.2.1, (y29.2.2.2.2.2.2.1, (y29.2.2.2.2.2.2.2, (y29.2.2.2.2.1, y29.2.2.2.2.2.1))))))) y30 (fun y31 =>
                let y31h := y31.2.2.2.2.2.2.2.2
                vgc a0 (fun y32 =>
                  vg2 a1 (fun y33 =>
                    vkh (y32.1, (y32.2.1, (y32.2.2.1, (y32.2.2.2.1, (y32.2.2.2.2.2.2.1, (y32.2.2.2.2.2.2.2, (y32.2.2.2.2.1, y32.2.2.2.2.2.1))))))) y33 (fun y34 =>
                      let y34h := y34.2.2.2.2.2.2.2.2
                      vfw (y34.1, (y34.2.1, (y34.2.2.1, (y34.2.2.2.1, (y34.2.2.2.2.2.2.2.1, (y34h, (y34.2.2.2.2.1, y34.2.2.2.2.2.1))))))) (y31.1, (y31.2.1, (y31.2.2.1, (y31.2.2.2.1, (y31.2.2.2.2.2.2.2.1, (y31h, (y31.2.2.2.2.1, y31.2.2.2.2.2.1))))))) (fun y35 =>
                        bif (!y35) then
                          k false
                        else
                          bif (!(y34.2.2.2.2.2.2.1 == y31.2.2.2.2.2.2.1)) then
                            k false
                          else
                            vdm false y31.2.2.2.2.2.2.1 y34.2.2.2.2.2.2.1 a0.1 a0.2.1 a0.2.2.1 a0.2.2.2.1 a0.2.2.2.2.1 a0.2.2.2.2.2.1 a0.2.2.2.2.2.2.1 a0.2.2.2.2.2.2.2 a1.1 a1.2.1 a1.2.2 y31.1 y31.2.1 y31.2.2.1 y31.2.2.2.1 y31.2.2.2.2.1 y31.2.2.2.2.2.1 y32.1 y32.2.1 y32.2.2.1 y32.2.2.2.1 y32.2.2.2.2.1 y32.2.2.2.2.2.1 y34.1 y34.2.1 y34.2.2.1 y34.2.2.2.1 y34.2.2.2.2.1 y34.2.2.2.2.2.1 y31.2.2.2.2.2.2.2.1 y31h y32.2.2.2.2.2.2.1 y32.2.2.2.2.2.2.2 y34.2.2.2.2.2.2.2.1 y34h (Sum.elim (fun z36 =>
                              k z36.1) (Sum.elim (fun z37 =>
                              k z37.1) (fun z38 =>
                              k z38.1))))))))))))
theorem v8z {a0 : dTxn} {a1 : vaa}  {k : Bool → Option Res} : vt9 a0 a1 k = v2q a0 a1 k := by
  rw [v0i]
  simp only [vyl, v2q, vpw, Sum.elim_inl, Sum.elim_inr]
end
end Go.VE
