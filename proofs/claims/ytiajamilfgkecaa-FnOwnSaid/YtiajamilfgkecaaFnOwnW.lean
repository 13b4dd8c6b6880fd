/- Loops told as recursions over what is left; written by gen.py. -/
import Derived.Test.YtiajamilfgkecaaFnOwnN
import Derived.Test.YtiajamilfgkecaaP1
namespace Go.VE
noncomputable section
set_option linter.unusedVariables false
set_option linter.unusedSimpArgs false
set_option maxRecDepth 100000
def vev (u0 : (List vah)) (u2 : ByteArray) (u3 : ByteArray) (u4 : Bool) : List vah → (List vah) → Nat → ((Int × (List vah)) → Option Res) → Option Res
  | [], s5, i, k =>
    k ((i : Int), s5)
  | y :: l, s5, i, k =>
    bif (vab (y.1) u2) then
      if s5.length + [y].length ≤ VE.maxLen then
        vev u0 u2 u3 u4 l (s5 ++ [y]) (i + 1) k
      else none
    else
      vev u0 u2 u3 u4 l s5 (i + 1) k
theorem v2r {u0} {u2} {u3} {u4} (h0 : u0.length < 9223372036854775807) {K : q15T → Option Res} : ∀ (l : List vah) (i : Nat) (s5 : (List vah)) (n : Nat), u0.drop i = l → l.length < n → vac vhm n (u0, (i : Int), u2, u3, u4, s5) K = vev u0 u2 u3 u4 l s5 i (fun z => K (u0, z.1, u2, u3, u4, z.2)) := by
  intro l
  induction l with
  | nil =>
    intro i s5 n hd hn
    have hge := vbi hd
    cases n with
    | zero => exact absurd hn (Nat.not_lt_zero _)
    | succ n => simp only [vac, vhm, vev, hge, decide_false, cond_false, Sum.elim_inr, Sum.elim_inl]
  | cons y l ih =>
    intro i s5 n hd hn
    obtain ⟨hlt, hz, hd2, hw, hnn⟩ := vb7 hd h0
    have hy := va8 hd
    cases n with
    | zero => exact absurd hn (Nat.not_lt_zero _)
    | succ n =>
      have ih2 := fun (s5 : (List vah)) => ih (i + 1) s5 n hd2 (Nat.lt_of_succ_lt_succ hn)
      simp only [vac, vhm, vev, hlt, hz, decide_true, cond_true, and_self, if_true, hy, hw, hnn, Sum.elim_inl, Sum.elim_inr, ih2]
theorem v3e {u0} {u2} {u3} {u4} (h0 : u0.length < 9223372036854775807) {K : q15T → Option Res} {s5 : (List vah)} : vac vhm Fuel (u0, (0 : Int), u2, u3, u4, s5) K = vev u0 u2 u3 u4 u0 s5 0 (fun z => K (u0, z.1, u2, u3, u4, z.2)) :=
  v2r h0 u0 0 s5 Fuel rfl (vci h0)
def ve5 (u0 : (List vah)) (u2 : ByteArray) (u3 : ByteArray) (u4 : Bool) : List vah → (List vah) → Nat → ((Int × (List vah)) → Option Res) → Option Res
  | [], s5, i, k =>
    k ((i : Int), s5)
  | y :: l, s5, i, k =>
    bif (!((vab (y.1) u2) || (vao (y.1) u2))) then
      if s5.length + [y].length ≤ VE.maxLen then
        ve5 u0 u2 u3 u4 l (s5 ++ [y]) (i + 1) k
      else none
    else
      ve5 u0 u2 u3 u4 l s5 (i + 1) k
theorem v35 {u0} {u2} {u3} {u4} (h0 : u0.length < 9223372036854775807) {K : q15T → Option Res} : ∀ (l : List vah) (i : Nat) (s5 : (List vah)) (n : Nat), u0.drop i = l → l.length < n → vac vgz n (u0, (i : Int), u2, u3, u4, s5) K = ve5 u0 u2 u3 u4 l s5 i (fun z => K (u0, z.1, u2, u3, u4, z.2)) := by
  intro l
  induction l with
  | nil =>
    intro i s5 n hd hn
    have hge := vbi hd
    cases n with
    | zero => exact absurd hn (Nat.not_lt_zero _)
    | succ n => simp only [vac, vgz, ve5, hge, decide_false, cond_false, Sum.elim_inr, Sum.elim_inl]
  | cons y l ih =>
    intro i s5 n hd hn
    obtain ⟨hlt, hz, hd2, hw, hnn⟩ := vb7 hd h0
    have hy := va8 hd
    cases n with
    | zero => exact absurd hn (Nat.not_lt_zero _)
    | succ n =>
      have ih2 := fun (s5 : (List vah)) => ih (i + 1) s5 n hd2 (Nat.lt_of_succ_lt_succ hn)
      simp only [vac, vgz, ve5, hlt, hz, decide_true, cond_true, and_self, if_true, hy, hw, hnn, Sum.elim_inl, Sum.elim_inr, ih2]
theorem v2o {u0} {u2} {u3} {u4} (h0 : u0.length < 9223372036854775807) {K : q15T → Option Res} {s5 : (List vah)} : vac vgz Fuel (u0, (0 : Int), u2, u3, u4, s5) K = ve5 u0 u2 u3 u4 u0 s5 0 (fun z => K (u0, z.1, u2, u3, u4, z.2)) :=
  v35 h0 u0 0 s5 Fuel rfl (vci h0)
def vzq (a0 : (List vah)) (a1 : vah) (k : (List vah) → Option Res) : Option Res :=
  vev a0 a1.1 a1.2.1 a1.2.2 a0 ([] : List vah) 0 (fun z19 =>
    if z19.2.length + [a1].length ≤ VE.maxLen then
      ve5 a0 a1.1 a1.2.1 a1.2.2 a0 (z19.2 ++ [a1]) 0 (fun z20 =>
        k z20.2)
    else none)
theorem v67 {a0 : (List vah)} {a1 : vah} (h0 : a0.length < 9223372036854775807) {k : (List vah) → Option Res} : vmo a0 a1 k = vzq a0 a1 k := by
  rw [vyr]
  simp only [vvu, vzq, (v2o h0), (v3e h0), Sum.elim_inl, Sum.elim_inr]
def vft (u0 : (List vaa)) : List vaa → (List ByteArray) → Nat → ((Int × (List ByteArray)) → Option Res) → Option Res
  | [], s3, i, k =>
    k ((i : Int), s3)
  | y :: l, s3, i, k =>
    if s3.length + [y.1].length ≤ VE.maxLen then
      vft u0 l (s3 ++ [y.1]) (i + 1) k
    else none
theorem v1x {u0} (h0 : u0.length < 9223372036854775807) {K : q10T → Option Res} : ∀ (l : List vaa) (i : Nat) (s3 : (List ByteArray)) (n : Nat), u0.drop i = l → l.length < n → vac vg7 n (u0, (u0.length : Int), (i : Int), s3) K = vft u0 l s3 i (fun z => K (u0, (u0.length : Int), z.1, z.2)) := by
  intro l
  induction l with
  | nil =>
    intro i s3 n hd hn
    have hge := vbi hd
    cases n with
    | zero => exact absurd hn (Nat.not_lt_zero _)
    | succ n => simp only [vac, vg7, vft, hge, decide_false, cond_false, Sum.elim_inr, Sum.elim_inl]
  | cons y l ih =>
    intro i s3 n hd hn
    obtain ⟨hlt, hz, hd2, hw, hnn⟩ := vb7 hd h0
    have hy := va8 hd
    cases n with
    | zero => exact absurd hn (Nat.not_lt_zero _)
    | succ n =>
      have ih2 := fun (s3 : (List ByteArray)) => ih (i + 1) s3 n hd2 (Nat.lt_of_succ_lt_succ hn)
      simp only [vac, vg7, vft, hlt, hz, decide_true, cond_true, and_self, if_true, hy, hw, hnn, Sum.elim_inl, Sum.elim_inr, ih2]
theorem v1t {u0} (h0 : u0.length < 9223372036854775807) {K : q10T → Option Res} {s3 : (List ByteArray)} : vac vg7 Fuel (u0, (u0.length : Int), (0 : Int), s3) K = vft u0 u0 s3 0 (fun z => K (u0, (u0.length : Int), z.1, z.2)) :=
  v1x h0 u0 0 s3 Fuel rfl (vci h0)
def vym (a0 : (List vaa)) (k : (List ByteArray) → Option Res) : Option Res :=
  vft a0 a0 ([] : List ByteArray) 0 (fun z19 =>
    vjg z19.2 (fun y20 =>
      vje y20 (Sum.elim (fun y21 =>
        k y21) (fun y22 =>
        k y22))))
theorem v7f {a0 : (List vaa)} (h0 : a0.length < 9223372036854775807) {k : (List ByteArray) → Option Res} : vk3 a0 k = vym a0 k := by
  rw [vz9]
  simp only [vwi, vym, (v1t h0), Sum.elim_inl, Sum.elim_inr]
def vfw (u0 : (List vah)) (u1 : Int) : List vah → ByteArray → Nat → (((Int × Int × ByteArray) ⊕ (Int × ByteArray)) → Option Res) → Option Res
  | [], s4, i, k =>
    k (.inr ((i : Int), s4))
  | y :: l, s4, i, k =>
    vnk y s4 (fun y1 =>
      bif y1.1 then
        k (.inl ((i : Int), (i : Int), y1.2))
      else
        vfw u0 u1 l y1.2 (i + 1) k)
theorem v2q {u0} {u1} (h0 : u0.length < 9223372036854775807) {K : (q18T ⊕ q18T) → Option Res} : ∀ (l : List vah) (i : Nat) (s4 : ByteArray) (n : Nat), u0.drop i = l → l.length < n → vac vgp n (u0, u1, (u0.length : Int), (i : Int), s4) K = vfw u0 u1 l s4 i (Sum.elim (fun z => K (.inl (u0, z.1, (u0.length : Int), z.2.1, z.2.2))) (fun z => K (.inr (u0, u1, (u0.length : Int), z.1, z.2)))) := by
  intro l
  induction l with
  | nil =>
    intro i s4 n hd hn
    have hge := vbi hd
    cases n with
    | zero => exact absurd hn (Nat.not_lt_zero _)
    | succ n => simp only [vac, vgp, vfw, hge, decide_false, cond_false, Sum.elim_inr, Sum.elim_inl]
  | cons y l ih =>
    intro i s4 n hd hn
    obtain ⟨hlt, hz, hd2, hw, hnn⟩ := vb7 hd h0
    have hy := va8 hd
    cases n with
    | zero => exact absurd hn (Nat.not_lt_zero _)
    | succ n =>
      have ih2 := fun (s4 : ByteArray) => ih (i + 1) s4 n hd2 (Nat.lt_of_succ_lt_succ hn)
      simp only [vac, vgp, vfw, hlt, hz, decide_true, cond_true, and_self, if_true, hy, hw, hnn, Sum.elim_inl, Sum.elim_inr, ih2]
theorem v1o {u0} {u1} (h0 : u0.length < 9223372036854775807) {K : (q18T ⊕ q18T) → Option Res} {s4 : ByteArray} : vac vgp Fuel (u0, u1, (u0.length : Int), (0 : Int), s4) K = vfw u0 u1 u0 s4 0 (Sum.elim (fun z => K (.inl (u0, z.1, (u0.length : Int), z.2.1, z.2.2))) (fun z => K (.inr (u0, u1, (u0.length : Int), z.1, z.2)))) :=
  v2q h0 u0 0 s4 Fuel rfl (vci h0)
def vzj (a0 : (List vah)) (a1 : ByteArray) (k : (Int × ByteArray) → Option Res) : Option Res :=
  vfw a0 (0 : Int) a0 a1 0 (Sum.elim (fun z19 =>
    k (z19.1, z19.2.2)) (fun z20 =>
    k ((-1 : Int), z20.2)))
theorem v8m {a0 : (List vah)} {a1 : ByteArray} (h0 : a0.length < 9223372036854775807) {k : (Int × ByteArray) → Option Res} : vrv a0 a1 k = vzj a0 a1 k := by
  rw [vz3]
  simp only [vwp, vzj, (v1o h0), Sum.elim_inl, Sum.elim_inr]
def vdn (u0 : (List vaa)) (u1 : ByteArray) (u2 : Int) (u4 : (List vaa)) : List vaa → Int → Nat → ((Int × Int) → Option Res) → Option Res
  | [], s3, i, k =>
    k (s3, (i : Int))
  | y :: l, s3, i, k =>
    bif (vao (y.1) u1) then
      bif (decide (y.2.2.2 ≤ u2)) then
        bif (decide (s3 < (0 : Int))) then
          vdn u0 u1 u2 u4 l (i : Int) (i + 1) k
        else
          if 0 ≤ s3 ∧ s3 < (u0.length : Int) then
            bif (decide (y.2.2.2 > (rd (Ty.zero tVersion) u0 s3).2.2.2)) then
              vdn u0 u1 u2 u4 l (i : Int) (i + 1) k
            else
              vdn u0 u1 u2 u4 l s3 (i + 1) k
          else none
      else
        vdn u0 u1 u2 u4 l s3 (i + 1) k
    else
      vdn u0 u1 u2 u4 l s3 (i + 1) k
theorem v2p {u0} {u1} {u2} {u4} (h0 : u4.length < 9223372036854775807) {K : q6T → Option Res} : ∀ (l : List vaa) (i : Nat) (s3 : Int) (n : Nat), u4.drop i = l → l.length < n → vac vg1 n (u0, u1, u2, s3, u4, (u4.length : Int), (i : Int)) K = vdn u0 u1 u2 u4 l s3 i (fun z => K (u0, u1, u2, z.1, u4, (u4.length : Int), z.2)) := by
  intro l
  induction l with
  | nil =>
    intro i s3 n hd hn
    have hge := vbi hd
    cases n with
    | zero => exact absurd hn (Nat.not_lt_zero _)
    | succ n => simp only [vac, vg1, vdn, hge, decide_false, cond_false, Sum.elim_inr, Sum.elim_inl]
  | cons y l ih =>
    intro i s3 n hd hn
    obtain ⟨hlt, hz, hd2, hw, hnn⟩ := vb7 hd h0
    have hy := va8 hd
    cases n with
    | zero => exact absurd hn (Nat.not_lt_zero _)
    | succ n =>
      have ih2 := fun (s3 : Int) => ih (i + 1) s3 n hd2 (Nat.lt_of_succ_lt_succ hn)
      simp only [vac, vg1, vdn, hlt, hz, decide_true, cond_true, and_self, if_true, hy, hw, hnn, Sum.elim_inl, Sum.elim_inr, ih2]
theorem v3t {u0} {u1} {u2} {u4} (h0 : u4.length < 9223372036854775807) {K : q6T → Option Res} {s3 : Int} : vac vg1 Fuel (u0, u1, u2, s3, u4, (u4.length : Int), (0 : Int)) K = vdn u0 u1 u2 u4 u4 s3 0 (fun z => K (u0, u1, u2, z.1, u4, (u4.length : Int), z.2)) :=
  v2p h0 u4 0 s3 Fuel rfl (vci h0)
def vz2 (a0 : (List vaa)) (a1 : ByteArray) (a2 : Int) (k : Int → Option Res) : Option Res :=
  vdn a0 a1 a2 a0 a0 (-1 : Int) 0 (fun z19 =>
    k z19.1)
theorem v8b {a0 : (List vaa)} {a1 : ByteArray} {a2 : Int} (h0 : a0.length < 9223372036854775807) {k : Int → Option Res} : vns a0 a1 a2 k = vz2 a0 a1 a2 k := by
  rw [vz0]
  simp only [vvc, vz2, (v3t h0), Sum.elim_inl, Sum.elim_inr]
def vf1 (u0 : (List vaa)) (u1 : (List vah)) (u4 : Int) (u5 : Int) (u6 : Int) (u7 : Int) (u8 : (List vai)) (u9 : (List vah)) (u10 : Bool) (u11 : ByteArray) (u12 : ByteArray) (u13 : ByteArray) : List vah → (List ByteArray) → Nat → ((Int × (List ByteArray)) → Option Res) → Option Res
  | [], s14, i, k =>
    k ((i : Int), s14)
  | y :: l, s14, i, k =>
    if s14.length + [y.1].length ≤ VE.maxLen then
      vf1 u0 u1 u4 u5 u6 u7 u8 u9 u10 u11 u12 u13 l (s14 ++ [y.1]) (i + 1) k
    else none
theorem v1y {u0} {u1} {u4} {u5} {u6} {u7} {u8} {u9} {u10} {u11} {u12} {u13} (h0 : u1.length < 9223372036854775807) {K : q4T → Option Res} : ∀ (l : List vah) (i : Nat) (s14 : (List ByteArray)) (n : Nat), u1.drop i = l → l.length < n → vac vgw n (u0, u1, (u1.length : Int), (i : Int), u4, u5, u6, u7, u8, u9, u10, u11, u12, u13, s14) K = vf1 u0 u1 u4 u5 u6 u7 u8 u9 u10 u11 u12 u13 l s14 i (fun z => K (u0, u1, (u1.length : Int), z.1, u4, u5, u6, u7, u8, u9, u10, u11, u12, u13, z.2)) := by
  intro l
  induction l with
  | nil =>
    intro i s14 n hd hn
    have hge := vbi hd
    cases n with
    | zero => exact absurd hn (Nat.not_lt_zero _)
    | succ n => simp only [vac, vgw, vf1, hge, decide_false, cond_false, Sum.elim_inr, Sum.elim_inl]
  | cons y l ih =>
    intro i s14 n hd hn
    obtain ⟨hlt, hz, hd2, hw, hnn⟩ := vb7 hd h0
    have hy := va8 hd
    cases n with
    | zero => exact absurd hn (Nat.not_lt_zero _)
    | succ n =>
      have ih2 := fun (s14 : (List ByteArray)) => ih (i + 1) s14 n hd2 (Nat.lt_of_succ_lt_succ hn)
      simp only [vac, vgw, vf1, hlt, hz, decide_true, cond_true, and_self, if_true, hy, hw, hnn, Sum.elim_inl, Sum.elim_inr, ih2]
theorem v17 {u0} {u1} {u4} {u5} {u6} {u7} {u8} {u9} {u10} {u11} {u12} {u13} (h0 : u1.length < 9223372036854775807) {K : q4T → Option Res} {s14 : (List ByteArray)} : vac vgw Fuel (u0, u1, (u1.length : Int), (0 : Int), u4, u5, u6, u7, u8, u9, u10, u11, u12, u13, s14) K = vf1 u0 u1 u4 u5 u6 u7 u8 u9 u10 u11 u12 u13 u1 s14 0 (fun z => K (u0, u1, (u1.length : Int), z.1, u4, u5, u6, u7, u8, u9, u10, u11, u12, u13, z.2)) :=
  v1y h0 u1 0 s14 Fuel rfl (vci h0)
def vzn (a0 : dTxn) (a1 : (List vaa)) (a2 : vai) (k : (List vai) → Option Res) : Option Res :=
  vk3 a1 (fun y19 =>
    vf1 a1 a0.2.2.2.2.2.1 a0.1 a0.2.1 a0.2.2.1 a0.2.2.2.1 a0.2.2.2.2.1 a0.2.2.2.2.2.1 a0.2.2.2.2.2.2.1 a0.2.2.2.2.2.2.2 a2.1 a2.2 a0.2.2.2.2.2.1 y19 0 (fun z20 =>
      vjg z20.2 (fun y21 =>
        vje y21 (Sum.elim (fun y22 =>
          vac vdr Fuel (a1, (y22.length : Int), (0 : Int), a0.1, a0.2.1, a0.2.2.1, a0.2.2.2.1, a0.2.2.2.2.1, a0.2.2.2.2.2.1, a0.2.2.2.2.2.2.1, a0.2.2.2.2.2.2.2, a2.1, a2.2, ([] : List vai), y22) (fun z23 =>
            k z23.2.2.2.2.2.2.2.2.2.2.2.2.2.1)) (fun y24 =>
          vac vdr Fuel (a1, (y24.length : Int), (0 : Int), a0.1, a0.2.1, a0.2.2.1, a0.2.2.2.1, a0.2.2.2.2.1, a0.2.2.2.2.2.1, a0.2.2.2.2.2.2.1, a0.2.2.2.2.2.2.2, a2.1, a2.2, ([] : List vai), y24) (fun z25 =>
            k z25.2.2.2.2.2.2.2.2.2.2.2.2.2.1))))))
theorem v62 {a0 : dTxn} {a1 : (List vaa)} {a2 : vai} (h0 : a0.2.2.2.2.2.1.length < 9223372036854775807) {k : (List vai) → Option Res} : vja a0 a1 a2 k = vzn a0 a1 a2 k := by
  rw [vzp]
  simp only [vvo, vzn, (v17 h0), Sum.elim_inl, Sum.elim_inr]
def vg3 (u0 : (List vai)) (u1 : (List vai)) (u2 : Bool) : List vai → Nat → (((Bool × Int) ⊕ Int) → Option Res) → Option Res
  | [], i, k =>
    k (.inr (i : Int))
  | y :: l, i, k =>
    if 0 ≤ (i : Int) ∧ (i : Int) < (u1.length : Int) then
      bif (!(Ty.eqB tRange y (rd (Ty.zero tRange) u1 (i : Int)))) then
        k (.inl (false, (i : Int)))
      else
        vg3 u0 u1 u2 l (i + 1) k
    else none
theorem v2f {u0} {u1} {u2} (h0 : u0.length < 9223372036854775807) {K : (q3T ⊕ q3T) → Option Res} : ∀ (l : List vai) (i : Nat)  (n : Nat), u0.drop i = l → l.length < n → vac vhb n (u0, u1, u2, (i : Int)) K = vg3 u0 u1 u2 l  i (Sum.elim (fun z => K (.inl (u0, u1, z.1, z.2))) (fun z => K (.inr (u0, u1, u2, z)))) := by
  intro l
  induction l with
  | nil =>
    intro i  n hd hn
    have hge := vbi hd
    cases n with
    | zero => exact absurd hn (Nat.not_lt_zero _)
    | succ n => simp only [vac, vhb, vg3, hge, decide_false, cond_false, Sum.elim_inr, Sum.elim_inl]
  | cons y l ih =>
    intro i  n hd hn
    obtain ⟨hlt, hz, hd2, hw, hnn⟩ := vb7 hd h0
    have hy := va8 hd
    cases n with
    | zero => exact absurd hn (Nat.not_lt_zero _)
    | succ n =>
      have ih2 := ih (i + 1)  n hd2 (Nat.lt_of_succ_lt_succ hn)
      simp only [vac, vhb, vg3, hlt, hz, decide_true, cond_true, and_self, if_true, hy, hw, hnn, Sum.elim_inl, Sum.elim_inr, ih2]
theorem v2g {u0} {u1} {u2} (h0 : u0.length < 9223372036854775807) {K : (q3T ⊕ q3T) → Option Res}  : vac vhb Fuel (u0, u1, u2, (0 : Int)) K = vg3 u0 u1 u2 u0  0 (Sum.elim (fun z => K (.inl (u0, u1, z.1, z.2))) (fun z => K (.inr (u0, u1, u2, z)))) :=
  v2f h0 u0 0  Fuel rfl (vci h0)
def v1a (a0 : (List vai)) (a1 : (List vai)) (k : Bool → Option Res) : Option Res :=
  bif ((a0.length : Int) != (a1.length : Int)) then
    k false
  else
    vg3 a0 a1 false a0  0 (Sum.elim (fun z19 =>
      k z19.1) (fun _ =>
      k true))
theorem v74 {a0 : (List vai)} {a1 : (List vai)} (h0 : a0.length < 9223372036854775807) {k : Bool → Option Res} : vl9 a0 a1 k = v1a a0 a1 k := by
  rw [vyh]
  simp only [vwy, v1a, (v2g h0), Sum.elim_inl, Sum.elim_inr]
def vdo (u0 : (List vaa)) (u1 : ByteArray) (u2 : Int) : List vaa → Int → Nat → ((Int × Int) → Option Res) → Option Res
  | [], s3, i, k =>
    k (s3, (i : Int))
  | y :: l, s3, i, k =>
    bif (vao (y.1) u1) then
      bif (decide (y.2.2.2 ≤ u2)) then
        bif (decide (s3 < (0 : Int))) then
          vdo u0 u1 u2 l (i : Int) (i + 1) k
        else
          if 0 ≤ s3 ∧ s3 < (u0.length : Int) then
            bif (decide (y.2.2.2 > (rd (Ty.zero tVersion) u0 s3).2.2.2)) then
              vdo u0 u1 u2 l (i : Int) (i + 1) k
            else
              vdo u0 u1 u2 l s3 (i + 1) k
          else none
      else
        vdo u0 u1 u2 l s3 (i + 1) k
    else
      vdo u0 u1 u2 l s3 (i + 1) k
theorem v1l {u0} {u1} {u2} (h0 : u0.length < 9223372036854775807) {K : q7T → Option Res} : ∀ (l : List vaa) (i : Nat) (s3 : Int) (n : Nat), u0.drop i = l → l.length < n → vac vg4 n (u0, u1, u2, s3, (i : Int)) K = vdo u0 u1 u2 l s3 i (fun z => K (u0, u1, u2, z.1, z.2)) := by
  intro l
  induction l with
  | nil =>
    intro i s3 n hd hn
    have hge := vbi hd
    cases n with
    | zero => exact absurd hn (Nat.not_lt_zero _)
    | succ n => simp only [vac, vg4, vdo, hge, decide_false, cond_false, Sum.elim_inr, Sum.elim_inl]
  | cons y l ih =>
    intro i s3 n hd hn
    obtain ⟨hlt, hz, hd2, hw, hnn⟩ := vb7 hd h0
    have hy := va8 hd
    cases n with
    | zero => exact absurd hn (Nat.not_lt_zero _)
    | succ n =>
      have ih2 := fun (s3 : Int) => ih (i + 1) s3 n hd2 (Nat.lt_of_succ_lt_succ hn)
      simp only [vac, vg4, vdo, hlt, hz, decide_true, cond_true, and_self, if_true, hy, hw, hnn, Sum.elim_inl, Sum.elim_inr, ih2]
theorem v2y {u0} {u1} {u2} (h0 : u0.length < 9223372036854775807) {K : q7T → Option Res} {s3 : Int} : vac vg4 Fuel (u0, u1, u2, s3, (0 : Int)) K = vdo u0 u1 u2 u0 s3 0 (fun z => K (u0, u1, u2, z.1, z.2)) :=
  v1l h0 u0 0 s3 Fuel rfl (vci h0)
def vzz (a0 : (List vaa)) (a1 : ByteArray) (a2 : Int) (k : Int → Option Res) : Option Res :=
  vdo a0 a1 a2 a0 (-1 : Int) 0 (fun z19 =>
    k z19.1)
theorem v79 {a0 : (List vaa)} {a1 : ByteArray} {a2 : Int} (h0 : a0.length < 9223372036854775807) {k : Int → Option Res} : vn6 a0 a1 a2 k = vzz a0 a1 a2 k := by
  rw [v0e]
  simp only [vvt, vzz, (v2y h0), Sum.elim_inl, Sum.elim_inr]
def vgs (u0 : (List vaa)) (u1 : ByteArray) (u2 : ByteArray) (u3 : Bool) (u5 : Int) (u6 : Int) (u7 : Int) (u8 : Int) (u9 : (List vai)) (u10 : (List vah)) (u11 : Bool) (u12 : ByteArray) : List vah → Nat → (((ByteArray × Bool × Int) ⊕ Int) → Option Res) → Option Res
  | [], i, k =>
    k (.inr (i : Int))
  | y :: l, i, k =>
    bif (vao (y.1) u1) then
      bif y.2.2 then
        k (.inl ((⟨#[]⟩ : ByteArray), false, (i : Int)))
      else
        k (.inl (y.2.1, true, (i : Int)))
    else
      vgs u0 u1 u2 u3 u5 u6 u7 u8 u9 u10 u11 u12 l (i + 1) k
theorem v26 {u0} {u1} {u2} {u3} {u5} {u6} {u7} {u8} {u9} {u10} {u11} {u12} (h0 : u10.length < 9223372036854775807) {K : (q5T ⊕ q5T) → Option Res} : ∀ (l : List vah) (i : Nat)  (n : Nat), u10.drop i = l → l.length < n → vac vg2 n (u0, u1, u2, u3, (i : Int), u5, u6, u7, u8, u9, u10, u11, u12) K = vgs u0 u1 u2 u3 u5 u6 u7 u8 u9 u10 u11 u12 l  i (Sum.elim (fun z => K (.inl (u0, u1, z.1, z.2.1, z.2.2, u5, u6, u7, u8, u9, u10, u11, u12))) (fun z => K (.inr (u0, u1, u2, u3, z, u5, u6, u7, u8, u9, u10, u11, u12)))) := by
  intro l
  induction l with
  | nil =>
    intro i  n hd hn
    have hge := vbi hd
    cases n with
    | zero => exact absurd hn (Nat.not_lt_zero _)
    | succ n => simp only [vac, vg2, vgs, hge, decide_false, cond_false, Sum.elim_inr, Sum.elim_inl]
  | cons y l ih =>
    intro i  n hd hn
    obtain ⟨hlt, hz, hd2, hw, hnn⟩ := vb7 hd h0
    have hy := va8 hd
    cases n with
    | zero => exact absurd hn (Nat.not_lt_zero _)
    | succ n =>
      have ih2 := ih (i + 1)  n hd2 (Nat.lt_of_succ_lt_succ hn)
      simp only [vac, vg2, vgs, hlt, hz, decide_true, cond_true, and_self, if_true, hy, hw, hnn, Sum.elim_inl, Sum.elim_inr, ih2]
theorem v20 {u0} {u1} {u2} {u3} {u5} {u6} {u7} {u8} {u9} {u10} {u11} {u12} (h0 : u10.length < 9223372036854775807) {K : (q5T ⊕ q5T) → Option Res}  : vac vg2 Fuel (u0, u1, u2, u3, (0 : Int), u5, u6, u7, u8, u9, u10, u11, u12) K = vgs u0 u1 u2 u3 u5 u6 u7 u8 u9 u10 u11 u12 u10  0 (Sum.elim (fun z => K (.inl (u0, u1, z.1, z.2.1, z.2.2, u5, u6, u7, u8, u9, u10, u11, u12))) (fun z => K (.inr (u0, u1, u2, u3, z, u5, u6, u7, u8, u9, u10, u11, u12)))) :=
  v26 h0 u10 0  Fuel rfl (vci h0)
def v0o (a0 : dTxn) (a1 : (List vaa)) (a2 : ByteArray) (k : (ByteArray × Bool) → Option Res) : Option Res :=
  vgs a1 a2 (⟨#[]⟩ : ByteArray) false a0.1 a0.2.1 a0.2.2.1 a0.2.2.2.1 a0.2.2.2.2.1 a0.2.2.2.2.2.1 a0.2.2.2.2.2.2.1 a0.2.2.2.2.2.2.2 a0.2.2.2.2.2.1  0 (Sum.elim (fun z19 =>
    k (z19.1, z19.2.1)) (fun _ =>
    vn4 a1 a2 a0.2.2.1 (fun y21 =>
      k (y21.1, y21.2))))
theorem v7y {a0 : dTxn} {a1 : (List vaa)} {a2 : ByteArray} (h0 : a0.2.2.2.2.2.1.length < 9223372036854775807) {k : (ByteArray × Bool) → Option Res} : vmi a0 a1 a2 k = v0o a0 a1 a2 k := by
  rw [v0f]
  simp only [vwc, v0o, (v20 h0), Sum.elim_inl, Sum.elim_inr]
def vf4 (u0 : (List vaa)) (u2 : Int) (u3 : Int) (u4 : Int) (u5 : Int) (u6 : (List vai)) (u7 : (List vah)) (u8 : Bool) (u9 : ByteArray) (u10 : ByteArray) (u11 : ByteArray) : List vah → (List vaa) → Nat → ((Int × (List vaa)) → Option Res) → Option Res
  | [], s12, i, k =>
    k ((i : Int), s12)
  | y :: l, s12, i, k =>
    if s12.length + [(y.1, ((⟨#[]⟩ : ByteArray), (false, (0 : Int))))].length ≤ VE.maxLen then
      vf4 u0 u2 u3 u4 u5 u6 u7 u8 u9 u10 u11 l (s12 ++ [(y.1, ((⟨#[]⟩ : ByteArray), (false, (0 : Int))))]) (i + 1) k
    else none
theorem v2x {u0} {u2} {u3} {u4} {u5} {u6} {u7} {u8} {u9} {u10} {u11} (h0 : u7.length < 9223372036854775807) {K : q13T → Option Res} : ∀ (l : List vah) (i : Nat) (s12 : (List vaa)) (n : Nat), u7.drop i = l → l.length < n → vac vho n (u0, (i : Int), u2, u3, u4, u5, u6, u7, u8, u9, u10, u11, s12) K = vf4 u0 u2 u3 u4 u5 u6 u7 u8 u9 u10 u11 l s12 i (fun z => K (u0, z.1, u2, u3, u4, u5, u6, u7, u8, u9, u10, u11, z.2)) := by
  intro l
  induction l with
  | nil =>
    intro i s12 n hd hn
    have hge := vbi hd
    cases n with
    | zero => exact absurd hn (Nat.not_lt_zero _)
    | succ n => simp only [vac, vho, vf4, hge, decide_false, cond_false, Sum.elim_inr, Sum.elim_inl]
  | cons y l ih =>
    intro i s12 n hd hn
    obtain ⟨hlt, hz, hd2, hw, hnn⟩ := vb7 hd h0
    have hy := va8 hd
    cases n with
    | zero => exact absurd hn (Nat.not_lt_zero _)
    | succ n =>
      have ih2 := fun (s12 : (List vaa)) => ih (i + 1) s12 n hd2 (Nat.lt_of_succ_lt_succ hn)
      simp only [vac, vho, vf4, hlt, hz, decide_true, cond_true, and_self, if_true, hy, hw, hnn, Sum.elim_inl, Sum.elim_inr, ih2]
theorem v2n {u0} {u2} {u3} {u4} {u5} {u6} {u7} {u8} {u9} {u10} {u11} (h0 : u7.length < 9223372036854775807) {K : q13T → Option Res} {s12 : (List vaa)} : vac vho Fuel (u0, (0 : Int), u2, u3, u4, u5, u6, u7, u8, u9, u10, u11, s12) K = vf4 u0 u2 u3 u4 u5 u6 u7 u8 u9 u10 u11 u7 s12 0 (fun z => K (u0, z.1, u2, u3, u4, u5, u6, u7, u8, u9, u10, u11, z.2)) :=
  v2x h0 u7 0 s12 Fuel rfl (vci h0)
def vzw (a0 : dTxn) (a1 : (List vaa)) (a2 : vai) (k : (List vai) → Option Res) : Option Res :=
  if ([] : List vaa).length + a1.length ≤ VE.maxLen then
    vf4 a1 a0.1 a0.2.1 a0.2.2.1 a0.2.2.2.1 a0.2.2.2.2.1 a0.2.2.2.2.2.1 a0.2.2.2.2.2.2.1 a0.2.2.2.2.2.2.2 a2.1 a2.2 a0.2.2.2.2.2.1 (([] : List vaa) ++ a1) 0 (fun z19 =>
      voh z19.2 a2 (fun y20 =>
        vac vga Fuel (a1, (0 : Int), a0.1, a0.2.1, a0.2.2.1, a0.2.2.2.1, a0.2.2.2.2.1, a0.2.2.2.2.2.1, a0.2.2.2.2.2.2.1, a0.2.2.2.2.2.2.2, ([] : List vai), y20) (fun z21 =>
          k z21.2.2.2.2.2.2.2.2.2.2.1)))
  else none
theorem v76 {a0 : dTxn} {a1 : (List vaa)} {a2 : vai} (h0 : a0.2.2.2.2.2.1.length < 9223372036854775807) {k : (List vai) → Option Res} : vmz a0 a1 a2 k = vzw a0 a1 a2 k := by
  rw [v02]
  simp only [vvq, vzw, (v2n h0), Sum.elim_inl, Sum.elim_inr]
def vit (u0 : Bool) (u2 : Int) (u3 : Int) (u4 : Int) (u5 : Int) (u6 : Bool) (u7 : ByteArray) (u8 : (List vaa)) (u9 : (List vai)) (u10 : (List vai)) (u11 : (List vah)) : List vah → Nat → (((Bool × Int) ⊕ Int) → Option Res) → Option Res
  | [], i, k =>
    k (.inr (i : Int))
  | y :: l, i, k =>
    vji (u2, (u3, (u4, (u5, (u10, (u11, (u6, u7))))))) u8 y.1 (fun y1 =>
      bif (y1.2 == y.2.2) then
        k (.inl (false, (i : Int)))
      else
        bif (!(vao y1.1 (y.2.1))) then
          k (.inl (false, (i : Int)))
        else
          vit u0 u2 u3 u4 u5 u6 u7 u8 u9 u10 u11 l (i + 1) k)
theorem v29 {u0} {u2} {u3} {u4} {u5} {u6} {u7} {u8} {u9} {u10} {u11} (h0 : u11.length < 9223372036854775807) {K : (q19T ⊕ q19T) → Option Res} : ∀ (l : List vah) (i : Nat)  (n : Nat), u11.drop i = l → l.length < n → vac vf5 n (u0, (i : Int), u2, u3, u4, u5, u6, u7, u8, u9, u10, u11) K = vit u0 u2 u3 u4 u5 u6 u7 u8 u9 u10 u11 l  i (Sum.elim (fun z => K (.inl (z.1, z.2, u2, u3, u4, u5, u6, u7, u8, u9, u10, u11))) (fun z => K (.inr (u0, z, u2, u3, u4, u5, u6, u7, u8, u9, u10, u11)))) := by
  intro l
  induction l with
  | nil =>
    intro i  n hd hn
    have hge := vbi hd
    cases n with
    | zero => exact absurd hn (Nat.not_lt_zero _)
    | succ n => simp only [vac, vf5, vit, hge, decide_false, cond_false, Sum.elim_inr, Sum.elim_inl]
  | cons y l ih =>
    intro i  n hd hn
    obtain ⟨hlt, hz, hd2, hw, hnn⟩ := vb7 hd h0
    have hy := va8 hd
    cases n with
    | zero => exact absurd hn (Nat.not_lt_zero _)
    | succ n =>
      have ih2 := ih (i + 1)  n hd2 (Nat.lt_of_succ_lt_succ hn)
      simp only [vac, vf5, vit, hlt, hz, decide_true, cond_true, and_self, if_true, hy, hw, hnn, Sum.elim_inl, Sum.elim_inr, ih2]
theorem v1z {u0} {u2} {u3} {u4} {u5} {u6} {u7} {u8} {u9} {u10} {u11} (h0 : u11.length < 9223372036854775807) {K : (q19T ⊕ q19T) → Option Res}  : vac vf5 Fuel (u0, (0 : Int), u2, u3, u4, u5, u6, u7, u8, u9, u10, u11) K = vit u0 u2 u3 u4 u5 u6 u7 u8 u9 u10 u11 u11  0 (Sum.elim (fun z => K (.inl (z.1, z.2, u2, u3, u4, u5, u6, u7, u8, u9, u10, u11))) (fun z => K (.inr (u0, z, u2, u3, u4, u5, u6, u7, u8, u9, u10, u11)))) :=
  v29 h0 u11 0  Fuel rfl (vci h0)
def vg5 (u0 : Bool) (u2 : Int) (u3 : Int) (u4 : Int) (u5 : Int) (u6 : Bool) (u7 : ByteArray) (u8 : (List vaa)) (u9 : (List vai)) (u10 : (List vai)) (u11 : (List vah)) : List vai → Nat → (((Bool × Int) ⊕ Int) → Option Res) → Option Res
  | [], i, k =>
    k (.inr (i : Int))
  | y :: l, i, k =>
    vji (u2, (u3, (u4, (u5, (u10, (u11, (u6, u7))))))) u8 y.1 (fun y1 =>
      bif (!y1.2) then
        k (.inl (false, (i : Int)))
      else
        bif (!(vao y1.1 (y.2))) then
          k (.inl (false, (i : Int)))
        else
          bif (decide ((i : Int) > (0 : Int))) then
            if 0 ≤ (IntKind.wrap .i64 ((i : Int) - (1 : Int))) ∧ (IntKind.wrap .i64 ((i : Int) - (1 : Int))) < (u9.length : Int) then
              bif (!(vab ((u9.getD (IntKind.wrap .i64 ((i : Int) - (1 : Int))).toNat (Ty.zero tRange)).1) (y.1))) then
                k (.inl (false, (i : Int)))
              else
                vg5 u0 u2 u3 u4 u5 u6 u7 u8 u9 u10 u11 l (i + 1) k
            else none
          else
            vg5 u0 u2 u3 u4 u5 u6 u7 u8 u9 u10 u11 l (i + 1) k)
theorem v2b {u0} {u2} {u3} {u4} {u5} {u6} {u7} {u8} {u9} {u10} {u11} (h0 : u9.length < 9223372036854775807) {K : (q19T ⊕ q19T) → Option Res} : ∀ (l : List vai) (i : Nat)  (n : Nat), u9.drop i = l → l.length < n → vac vfq n (u0, (i : Int), u2, u3, u4, u5, u6, u7, u8, u9, u10, u11) K = vg5 u0 u2 u3 u4 u5 u6 u7 u8 u9 u10 u11 l  i (Sum.elim (fun z => K (.inl (z.1, z.2, u2, u3, u4, u5, u6, u7, u8, u9, u10, u11))) (fun z => K (.inr (u0, z, u2, u3, u4, u5, u6, u7, u8, u9, u10, u11)))) := by
  intro l
  induction l with
  | nil =>
    intro i  n hd hn
    have hge := vbi hd
    cases n with
    | zero => exact absurd hn (Nat.not_lt_zero _)
    | succ n => simp only [vac, vfq, vg5, hge, decide_false, cond_false, Sum.elim_inr, Sum.elim_inl]
  | cons y l ih =>
    intro i  n hd hn
    obtain ⟨hlt, hz, hd2, hw, hnn⟩ := vb7 hd h0
    have hy := va8 hd
    cases n with
    | zero => exact absurd hn (Nat.not_lt_zero _)
    | succ n =>
      have ih2 := ih (i + 1)  n hd2 (Nat.lt_of_succ_lt_succ hn)
      simp only [vac, vfq, vg5, hlt, hz, decide_true, cond_true, and_self, if_true, hy, hw, hnn, Sum.elim_inl, Sum.elim_inr, ih2]
theorem v3j {u0} {u2} {u3} {u4} {u5} {u6} {u7} {u8} {u9} {u10} {u11} (h0 : u9.length < 9223372036854775807) {K : (q19T ⊕ q19T) → Option Res}  : vac vfq Fuel (u0, (0 : Int), u2, u3, u4, u5, u6, u7, u8, u9, u10, u11) K = vg5 u0 u2 u3 u4 u5 u6 u7 u8 u9 u10 u11 u9  0 (Sum.elim (fun z => K (.inl (z.1, z.2, u2, u3, u4, u5, u6, u7, u8, u9, u10, u11))) (fun z => K (.inr (u0, z, u2, u3, u4, u5, u6, u7, u8, u9, u10, u11)))) :=
  v2b h0 u9 0  Fuel rfl (vci h0)
def v09 (a0 : (List Int)) (k : Bool → Option Res) : Option Res :=
  vo3 a0 (fun y19 =>
    bif y19 then
      k true
    else
      vof a0 (fun y20 =>
        vnp a0 (fun y21 =>
          vgg  (fun y22 =>
            vja (y20.1, (y20.2.1, (y20.2.2.1, (y20.2.2.2.1, (y20.2.2.2.2.2.2.1, (y20.2.2.2.2.2.2.2, (y20.2.2.2.2.1, y20.2.2.2.2.2.1))))))) y21 y22 (fun y23 =>
              vac vf5 Fuel (false, (0 : Int), y20.1, y20.2.1, y20.2.2.1, y20.2.2.2.1, y20.2.2.2.2.1, y20.2.2.2.2.2.1, y21, y23, y20.2.2.2.2.2.2.1, y20.2.2.2.2.2.2.2) (Sum.elim (fun z24 =>
                k z24.1) (fun z25 =>
                let z25h := z25.2.2.2.2.2.2.2.2
                vac vfq Fuel (z25.1, (0 : Int), z25.2.2.1, z25.2.2.2.1, z25.2.2.2.2.1, z25.2.2.2.2.2.1, z25.2.2.2.2.2.2.1, z25.2.2.2.2.2.2.2.1, z25h.1, z25h.2.1, z25h.2.2.1, z25h.2.2.2) (Sum.elim (fun z26 =>
                  k z26.1) (fun z27 =>
                  let z27h := z27.2.2.2.2.2.2.2.2
                  vgg  (fun y28 =>
                    vja (z27.2.2.1, (z27.2.2.2.1, (z27.2.2.2.2.1, (z27.2.2.2.2.2.1, (z27h.2.2.1, (([] : List vah), (z27.2.2.2.2.2.2.1, z27.2.2.2.2.2.2.2.1))))))) z27h.1 y28 (fun y29 =>
                      vgg  (fun y30 =>
                        vol z27h.1 y30 z27.2.2.2.2.1 (fun y31 =>
                          vl9 y29 y31 (fun y32 =>
                            bif y32 then
                              vgg  (fun y33 =>
                                vmz (z27.2.2.1, (z27.2.2.2.1, (z27.2.2.2.2.1, (z27.2.2.2.2.2.1, (z27h.2.2.1, (z27h.2.2.2, (z27.2.2.2.2.2.2.1, z27.2.2.2.2.2.2.2.1))))))) z27h.1 y33 (fun y34 =>
                                  k ((z27h.2.1.length : Int) == (y34.length : Int))))
                            else
                              k false))))))))))))))
theorem v8o {a0 : (List Int)}  {k : Bool → Option Res} : vsl a0 k = v09 a0 k := by
  rw [v0m]
  simp only [vu4, v09, Sum.elim_inl, Sum.elim_inr]
end
end Go.VE
