/- Loops told as recursions over what is left; written by gen.py. -/
import Derived.Test.YtiajamilfgkecaaFnSeenN
import Derived.Test.YtiajamilfgkecaaP1
namespace Go.VE
noncomputable section
set_option linter.unusedVariables false
set_option linter.unusedSimpArgs false
set_option maxRecDepth 100000
def ve9 (u0 : (List vak)) (u2 : ByteArray) (u3 : ByteArray) (u4 : Bool) : List vak → (List vak) → Nat → ((Int × (List vak)) → Option Res) → Option Res
  | [], s5, i, k =>
    k ((i : Int), s5)
  | y :: l, s5, i, k =>
    bif (vab (y.1) u2) then
      if s5.length + [y].length ≤ VE.maxLen then
        ve9 u0 u2 u3 u4 l (s5 ++ [y]) (i + 1) k
      else none
    else
      ve9 u0 u2 u3 u4 l s5 (i + 1) k
theorem v1t {u0} {u2} {u3} {u4} (h0 : u0.length < 9223372036854775807) {K : q11T → Option Res} : ∀ (l : List vak) (i : Nat) (s5 : (List vak)) (n : Nat), u0.drop i = l → l.length < n → vah vg5 n (u0, (i : Int), u2, u3, u4, s5) K = ve9 u0 u2 u3 u4 l s5 i (fun z => K (u0, z.1, u2, u3, u4, z.2)) := by
  intro l
  induction l with
  | nil =>
    intro i s5 n hd hn
    have hge := vcx hd
    cases n with
    | zero => exact absurd hn (Nat.not_lt_zero _)
    | succ n => simp only [vah, vg5, ve9, hge, decide_false, cond_false, Sum.elim_inr, Sum.elim_inl]
  | cons y l ih =>
    intro i s5 n hd hn
    obtain ⟨hlt, hz, hd2, hw, hnn⟩ := vc9 hd h0
    have hy := vbx hd
    cases n with
    | zero => exact absurd hn (Nat.not_lt_zero _)
    | succ n =>
      have ih2 := fun (s5 : (List vak)) => ih (i + 1) s5 n hd2 (Nat.lt_of_succ_lt_succ hn)
      simp only [vah, vg5, ve9, hlt, hz, decide_true, cond_true, and_self, if_true, hy, hw, hnn, Sum.elim_inl, Sum.elim_inr, ih2]
theorem v2t {u0} {u2} {u3} {u4} (h0 : u0.length < 9223372036854775807) {K : q11T → Option Res} {s5 : (List vak)} : vah vg5 Fuel (u0, (0 : Int), u2, u3, u4, s5) K = ve9 u0 u2 u3 u4 u0 s5 0 (fun z => K (u0, z.1, u2, u3, u4, z.2)) :=
  v1t h0 u0 0 s5 Fuel rfl (vdt h0)
def vfb (u0 : (List vak)) (u2 : ByteArray) (u3 : ByteArray) (u4 : Bool) : List vak → (List vak) → Nat → ((Int × (List vak)) → Option Res) → Option Res
  | [], s5, i, k =>
    k ((i : Int), s5)
  | y :: l, s5, i, k =>
    bif (!((vab (y.1) u2) || (vap (y.1) u2))) then
      if s5.length + [y].length ≤ VE.maxLen then
        vfb u0 u2 u3 u4 l (s5 ++ [y]) (i + 1) k
      else none
    else
      vfb u0 u2 u3 u4 l s5 (i + 1) k
theorem v3v {u0} {u2} {u3} {u4} (h0 : u0.length < 9223372036854775807) {K : q11T → Option Res} : ∀ (l : List vak) (i : Nat) (s5 : (List vak)) (n : Nat), u0.drop i = l → l.length < n → vah vhp n (u0, (i : Int), u2, u3, u4, s5) K = vfb u0 u2 u3 u4 l s5 i (fun z => K (u0, z.1, u2, u3, u4, z.2)) := by
  intro l
  induction l with
  | nil =>
    intro i s5 n hd hn
    have hge := vcx hd
    cases n with
    | zero => exact absurd hn (Nat.not_lt_zero _)
    | succ n => simp only [vah, vhp, vfb, hge, decide_false, cond_false, Sum.elim_inr, Sum.elim_inl]
  | cons y l ih =>
    intro i s5 n hd hn
    obtain ⟨hlt, hz, hd2, hw, hnn⟩ := vc9 hd h0
    have hy := vbx hd
    cases n with
    | zero => exact absurd hn (Nat.not_lt_zero _)
    | succ n =>
      have ih2 := fun (s5 : (List vak)) => ih (i + 1) s5 n hd2 (Nat.lt_of_succ_lt_succ hn)
      simp only [vah, vhp, vfb, hlt, hz, decide_true, cond_true, and_self, if_true, hy, hw, hnn, Sum.elim_inl, Sum.elim_inr, ih2]
theorem v1p {u0} {u2} {u3} {u4} (h0 : u0.length < 9223372036854775807) {K : q11T → Option Res} {s5 : (List vak)} : vah vhp Fuel (u0, (0 : Int), u2, u3, u4, s5) K = vfb u0 u2 u3 u4 u0 s5 0 (fun z => K (u0, z.1, u2, u3, u4, z.2)) :=
  v3v h0 u0 0 s5 Fuel rfl (vdt h0)
def v0s (a0 : (List vak)) (a1 : vak) (k : (List vak) → Option Res) : Option Res :=
  ve9 a0 a1.1 a1.2.1 a1.2.2 a0 ([] : List vak) 0 (fun z19 =>
    if z19.2.length + [a1].length ≤ VE.maxLen then
      vfb a0 a1.1 a1.2.1 a1.2.2 a0 (z19.2 ++ [a1]) 0 (fun z20 =>
        k z20.2)
    else none)
theorem v8i {a0 : (List vak)} {a1 : vak} (h0 : a0.length < 9223372036854775807) {k : (List vak) → Option Res} : vmz a0 a1 k = v0s a0 a1 k := by
  rw [v0k]
  simp only [vv2, v0s, (v1p h0), (v2t h0), Sum.elim_inl, Sum.elim_inr]
def vhe (u0 : (List vaa)) (u1 : Int) : List vaa → ByteArray → ByteArray → Bool → Int → Nat → (((Int × Int × ByteArray × ByteArray × Bool × Int) ⊕ q22T) → Option Res) → Option Res
  | [], s4, s5, s6, s7, i, k =>
    k (.inr ((i : Int), s4, s5, s6, s7))
  | y :: l, s4, s5, s6, s7, i, k =>
    vsy y s4 s5 s6 s7 (fun y1 =>
      bif y1.1 then
        k (.inl ((i : Int), (i : Int), y1.2.1, y1.2.2.1, y1.2.2.2.1, y1.2.2.2.2))
      else
        vhe u0 u1 l y1.2.1 y1.2.2.1 y1.2.2.2.1 y1.2.2.2.2 (i + 1) k)
theorem v28 {u0} {u1} (h0 : u0.length < 9223372036854775807) {K : (q10T ⊕ q10T) → Option Res} : ∀ (l : List vaa) (i : Nat) (s4 : ByteArray) (s5 : ByteArray) (s6 : Bool) (s7 : Int) (n : Nat), u0.drop i = l → l.length < n → vah vg7 n (u0, u1, (u0.length : Int), (i : Int), s4, s5, s6, s7) K = vhe u0 u1 l s4 s5 s6 s7 i (Sum.elim (fun z => K (.inl (u0, z.1, (u0.length : Int), z.2.1, z.2.2.1, z.2.2.2.1, z.2.2.2.2.1, z.2.2.2.2.2))) (fun z => K (.inr (u0, u1, (u0.length : Int), z.1, z.2.1, z.2.2.1, z.2.2.2.1, z.2.2.2.2)))) := by
  intro l
  induction l with
  | nil =>
    intro i s4 s5 s6 s7 n hd hn
    have hge := vcx hd
    cases n with
    | zero => exact absurd hn (Nat.not_lt_zero _)
    | succ n => simp only [vah, vg7, vhe, hge, decide_false, cond_false, Sum.elim_inr, Sum.elim_inl]
  | cons y l ih =>
    intro i s4 s5 s6 s7 n hd hn
    obtain ⟨hlt, hz, hd2, hw, hnn⟩ := vc9 hd h0
    have hy := vbx hd
    cases n with
    | zero => exact absurd hn (Nat.not_lt_zero _)
    | succ n =>
      have ih2 := fun (s4 : ByteArray) (s5 : ByteArray) (s6 : Bool) (s7 : Int) => ih (i + 1) s4 s5 s6 s7 n hd2 (Nat.lt_of_succ_lt_succ hn)
      simp only [vah, vg7, vhe, hlt, hz, decide_true, cond_true, and_self, if_true, hy, hw, hnn, Sum.elim_inl, Sum.elim_inr, ih2]
theorem v2m {u0} {u1} (h0 : u0.length < 9223372036854775807) {K : (q10T ⊕ q10T) → Option Res} {s4 : ByteArray} {s5 : ByteArray} {s6 : Bool} {s7 : Int} : vah vg7 Fuel (u0, u1, (u0.length : Int), (0 : Int), s4, s5, s6, s7) K = vhe u0 u1 u0 s4 s5 s6 s7 0 (Sum.elim (fun z => K (.inl (u0, z.1, (u0.length : Int), z.2.1, z.2.2.1, z.2.2.2.1, z.2.2.2.2.1, z.2.2.2.2.2))) (fun z => K (.inr (u0, u1, (u0.length : Int), z.1, z.2.1, z.2.2.1, z.2.2.2.1, z.2.2.2.2)))) :=
  v28 h0 u0 0 s4 s5 s6 s7 Fuel rfl (vdt h0)
def vzd (a0 : (List vaa)) (a1 : ByteArray) (a2 : ByteArray) (a3 : Bool) (a4 : Int) (k : q22T → Option Res) : Option Res :=
  vhe a0 (0 : Int) a0 a1 a2 a3 a4 0 (Sum.elim (fun z19 =>
    k (z19.1, z19.2.2.1, z19.2.2.2.1, z19.2.2.2.2.1, z19.2.2.2.2.2)) (fun z20 =>
    k ((-1 : Int), z20.2.1, z20.2.2.1, z20.2.2.2.1, z20.2.2.2.2)))
theorem v8m {a0 : (List vaa)} {a1 : ByteArray} {a2 : ByteArray} {a3 : Bool} {a4 : Int} (h0 : a0.length < 9223372036854775807) {k : q22T → Option Res} : voz a0 a1 a2 a3 a4 k = vzd a0 a1 a2 a3 a4 k := by
  rw [v0r]
  simp only [vv3, vzd, (v2m h0), Sum.elim_inl, Sum.elim_inr]
def vgd (u0 : Int) (u1 : (List vak)) : List vak → (List vaa) → Nat → ((Int × (List vaa)) → Option Res) → Option Res
  | [], s4, i, k =>
    k ((i : Int), s4)
  | y :: l, s4, i, k =>
    voz s4 y.1 y.2.1 y.2.2 u0 (fun y1 =>
      bif (decide (y1.1 < (0 : Int))) then
        vkv (s4.length : Int) s4 [y1.2] (fun y2 =>
          vgd u0 u1 l y2.2 (i + 1) k)
      else
        vkv y1.1 s4 [y1.2] (fun y3 =>
          vgd u0 u1 l y3.2 (i + 1) k))
theorem v3e {u0} {u1} (h0 : u1.length < 9223372036854775807) {K : q21T → Option Res} : ∀ (l : List vak) (i : Nat) (s4 : (List vaa)) (n : Nat), u1.drop i = l → l.length < n → vah vgz n (u0, u1, (u1.length : Int), (i : Int), s4) K = vgd u0 u1 l s4 i (fun z => K (u0, u1, (u1.length : Int), z.1, z.2)) := by
  intro l
  induction l with
  | nil =>
    intro i s4 n hd hn
    have hge := vcx hd
    cases n with
    | zero => exact absurd hn (Nat.not_lt_zero _)
    | succ n => simp only [vah, vgz, vgd, hge, decide_false, cond_false, Sum.elim_inr, Sum.elim_inl]
  | cons y l ih =>
    intro i s4 n hd hn
    obtain ⟨hlt, hz, hd2, hw, hnn⟩ := vc9 hd h0
    have hy := vbx hd
    cases n with
    | zero => exact absurd hn (Nat.not_lt_zero _)
    | succ n =>
      have ih2 := fun (s4 : (List vaa)) => ih (i + 1) s4 n hd2 (Nat.lt_of_succ_lt_succ hn)
      simp only [vah, vgz, vgd, hlt, hz, decide_true, cond_true, and_self, if_true, hy, hw, hnn, Sum.elim_inl, Sum.elim_inr, ih2]
theorem v3w {u0} {u1} (h0 : u1.length < 9223372036854775807) {K : q21T → Option Res} {s4 : (List vaa)} : vah vgz Fuel (u0, u1, (u1.length : Int), (0 : Int), s4) K = vgd u0 u1 u1 s4 0 (fun z => K (u0, u1, (u1.length : Int), z.1, z.2)) :=
  v3e h0 u1 0 s4 Fuel rfl (vdt h0)
def v1j (a0 : (List vaa)) (a1 : (List vak)) (a2 : Int) (k : (List vaa) → Option Res) : Option Res :=
  if a0.length ≤ VE.maxLen then
    vgd a2 a1 a1 a0 0 (fun z19 =>
      k z19.2)
  else none
theorem v8h {a0 : (List vaa)} {a1 : (List vak)} {a2 : Int} (h0 : a1.length < 9223372036854775807) {k : (List vaa) → Option Res} : vme a0 a1 a2 k = v1j a0 a1 a2 k := by
  rw [vyz]
  simp only [vu5, v1j, (v3w h0), Sum.elim_inl, Sum.elim_inr]
def vd5 (u0 : (List vaa)) (u1 : ByteArray) (u2 : Int) (u4 : (List vaa)) : List vaa → Int → Nat → ((Int × Int) → Option Res) → Option Res
  | [], s3, i, k =>
    k (s3, (i : Int))
  | y :: l, s3, i, k =>
    bif (vap (y.1) u1) then
      bif (decide (y.2.2.2 ≤ u2)) then
        bif (decide (s3 < (0 : Int))) then
          vd5 u0 u1 u2 u4 l (i : Int) (i + 1) k
        else
          if 0 ≤ s3 ∧ s3 < (u0.length : Int) then
            bif (decide (y.2.2.2 > (rd (Ty.zero tVersion) u0 s3).2.2.2)) then
              vd5 u0 u1 u2 u4 l (i : Int) (i + 1) k
            else
              vd5 u0 u1 u2 u4 l s3 (i + 1) k
          else none
      else
        vd5 u0 u1 u2 u4 l s3 (i + 1) k
    else
      vd5 u0 u1 u2 u4 l s3 (i + 1) k
theorem v2e {u0} {u1} {u2} {u4} (h0 : u4.length < 9223372036854775807) {K : q6T → Option Res} : ∀ (l : List vaa) (i : Nat) (s3 : Int) (n : Nat), u4.drop i = l → l.length < n → vah vg9 n (u0, u1, u2, s3, u4, (u4.length : Int), (i : Int)) K = vd5 u0 u1 u2 u4 l s3 i (fun z => K (u0, u1, u2, z.1, u4, (u4.length : Int), z.2)) := by
  intro l
  induction l with
  | nil =>
    intro i s3 n hd hn
    have hge := vcx hd
    cases n with
    | zero => exact absurd hn (Nat.not_lt_zero _)
    | succ n => simp only [vah, vg9, vd5, hge, decide_false, cond_false, Sum.elim_inr, Sum.elim_inl]
  | cons y l ih =>
    intro i s3 n hd hn
    obtain ⟨hlt, hz, hd2, hw, hnn⟩ := vc9 hd h0
    have hy := vbx hd
    cases n with
    | zero => exact absurd hn (Nat.not_lt_zero _)
    | succ n =>
      have ih2 := fun (s3 : Int) => ih (i + 1) s3 n hd2 (Nat.lt_of_succ_lt_succ hn)
      simp only [vah, vg9, vd5, hlt, hz, decide_true, cond_true, and_self, if_true, hy, hw, hnn, Sum.elim_inl, Sum.elim_inr, ih2]
theorem v3u {u0} {u1} {u2} {u4} (h0 : u4.length < 9223372036854775807) {K : q6T → Option Res} {s3 : Int} : vah vg9 Fuel (u0, u1, u2, s3, u4, (u4.length : Int), (0 : Int)) K = vd5 u0 u1 u2 u4 u4 s3 0 (fun z => K (u0, u1, u2, z.1, u4, (u4.length : Int), z.2)) :=
  v2e h0 u4 0 s3 Fuel rfl (vdt h0)
def vzz (a0 : (List vaa)) (a1 : ByteArray) (a2 : Int) (k : Int → Option Res) : Option Res :=
  vd5 a0 a1 a2 a0 a0 (-1 : Int) 0 (fun z19 =>
    k z19.1)
theorem v8j {a0 : (List vaa)} {a1 : ByteArray} {a2 : Int} (h0 : a0.length < 9223372036854775807) {k : Int → Option Res} : voh a0 a1 a2 k = vzz a0 a1 a2 k := by
  rw [vy7]
  simp only [vwg, vzz, (v3u h0), Sum.elim_inl, Sum.elim_inr]
def vd2 (u0 : (List vaa)) (u1 : ByteArray) (u2 : Int) : List vaa → Int → Nat → ((Int × Int) → Option Res) → Option Res
  | [], s3, i, k =>
    k (s3, (i : Int))
  | y :: l, s3, i, k =>
    bif (vap (y.1) u1) then
      bif (decide (y.2.2.2 ≤ u2)) then
        bif (decide (s3 < (0 : Int))) then
          vd2 u0 u1 u2 l (i : Int) (i + 1) k
        else
          if 0 ≤ s3 ∧ s3 < (u0.length : Int) then
            bif (decide (y.2.2.2 > (rd (Ty.zero tVersion) u0 s3).2.2.2)) then
              vd2 u0 u1 u2 l (i : Int) (i + 1) k
            else
              vd2 u0 u1 u2 l s3 (i + 1) k
          else none
      else
        vd2 u0 u1 u2 l s3 (i + 1) k
    else
      vd2 u0 u1 u2 l s3 (i + 1) k
theorem v12 {u0} {u1} {u2} (h0 : u0.length < 9223372036854775807) {K : q7T → Option Res} : ∀ (l : List vaa) (i : Nat) (s3 : Int) (n : Nat), u0.drop i = l → l.length < n → vah vhn n (u0, u1, u2, s3, (i : Int)) K = vd2 u0 u1 u2 l s3 i (fun z => K (u0, u1, u2, z.1, z.2)) := by
  intro l
  induction l with
  | nil =>
    intro i s3 n hd hn
    have hge := vcx hd
    cases n with
    | zero => exact absurd hn (Nat.not_lt_zero _)
    | succ n => simp only [vah, vhn, vd2, hge, decide_false, cond_false, Sum.elim_inr, Sum.elim_inl]
  | cons y l ih =>
    intro i s3 n hd hn
    obtain ⟨hlt, hz, hd2, hw, hnn⟩ := vc9 hd h0
    have hy := vbx hd
    cases n with
    | zero => exact absurd hn (Nat.not_lt_zero _)
    | succ n =>
      have ih2 := fun (s3 : Int) => ih (i + 1) s3 n hd2 (Nat.lt_of_succ_lt_succ hn)
      simp only [vah, vhn, vd2, hlt, hz, decide_true, cond_true, and_self, if_true, hy, hw, hnn, Sum.elim_inl, Sum.elim_inr, ih2]
theorem v3l {u0} {u1} {u2} (h0 : u0.length < 9223372036854775807) {K : q7T → Option Res} {s3 : Int} : vah vhn Fuel (u0, u1, u2, s3, (0 : Int)) K = vd2 u0 u1 u2 u0 s3 0 (fun z => K (u0, u1, u2, z.1, z.2)) :=
  v12 h0 u0 0 s3 Fuel rfl (vdt h0)
def vyk (a0 : (List vaa)) (a1 : ByteArray) (a2 : Int) (k : Int → Option Res) : Option Res :=
  vd2 a0 a1 a2 a0 (-1 : Int) 0 (fun z19 =>
    k z19.1)
theorem v7s {a0 : (List vaa)} {a1 : ByteArray} {a2 : Int} (h0 : a0.length < 9223372036854775807) {k : Int → Option Res} : vo2 a0 a1 a2 k = vyk a0 a1 a2 k := by
  rw [vy8]
  simp only [vvd, vyk, (v3l h0), Sum.elim_inl, Sum.elim_inr]
def vhg (u0 : ByteArray) (u1 : Bool) : List Int → Nat → (((Bool × Int) ⊕ Int) → Option Res) → Option Res
  | [], i, k =>
    k (.inr (i : Int))
  | y :: l, i, k =>
    bif (decide (y < (97 : Int))) then
      k (.inl (false, (i : Int)))
    else
      bif (decide (y > (122 : Int))) then
        k (.inl (false, (i : Int)))
      else
        vhg u0 u1 l (i + 1) k
theorem v3x {u0} {u1} (h0 : u0.size < 9223372036854775807) {K : ((ByteArray × Bool × Int) ⊕ (ByteArray × Bool × Int)) → Option Res} : ∀ (l : List Int) (i : Nat)  (n : Nat), (vcr u0).drop i = l → l.length < n → vah vgy n (u0, u1, (i : Int)) K = vhg u0 u1 l  i (Sum.elim (fun z => K (.inl (u0, z.1, z.2))) (fun z => K (.inr (u0, u1, z)))) := by
  intro l
  induction l with
  | nil =>
    intro i  n hd hn
    have hge := v5m hd
    cases n with
    | zero => exact absurd hn (Nat.not_lt_zero _)
    | succ n => simp only [vah, vgy, vhg, hge, decide_false, cond_false, Sum.elim_inr, Sum.elim_inl]
  | cons y l ih =>
    intro i  n hd hn
    obtain ⟨hlt, hz, hd2, hw, hnn⟩ := v2s hd h0
    have hy := v6d hd
    cases n with
    | zero => exact absurd hn (Nat.not_lt_zero _)
    | succ n =>
      have ih2 := ih (i + 1)  n hd2 (Nat.lt_of_succ_lt_succ hn)
      simp only [vah, vgy, vhg, hlt, hz, decide_true, cond_true, and_self, if_true, hy, hw, hnn, Sum.elim_inl, Sum.elim_inr, ih2]
theorem v27 {u0} {u1} (h0 : u0.size < 9223372036854775807) {K : ((ByteArray × Bool × Int) ⊕ (ByteArray × Bool × Int)) → Option Res}  : vah vgy Fuel (u0, u1, (0 : Int)) K = vhg u0 u1 (vcr u0)  0 (Sum.elim (fun z => K (.inl (u0, z.1, z.2))) (fun z => K (.inr (u0, u1, z)))) :=
  v3x h0 (vcr u0) 0  Fuel rfl (v1s h0)
def vy1 (a0 : ByteArray) (k : Bool → Option Res) : Option Res :=
  vhg a0 false (vcr a0)  0 (Sum.elim (fun z19 =>
    k z19.1) (fun _ =>
    via (a0.size : Int) (1 : Int) (3 : Int) (fun y21 =>
      k y21)))
theorem v8k {a0 : ByteArray} (h0 : a0.size < 9223372036854775807) {k : Bool → Option Res} : vl1 a0 k = vy1 a0 k := by
  rw [vzx]
  simp only [vws, vy1, (v27 h0), Sum.elim_inl, Sum.elim_inr]
def vem (u0 : (List vaa)) (u1 : Bool) (u2 : (List vaa)) : List vaa → Nat → (((Bool × Int) ⊕ Int) → Option Res) → Option Res
  | [], i, k =>
    k (.inr (i : Int))
  | y :: l, i, k =>
    vl1 y.1 (fun y1 =>
      bif (!y1) then
        k (.inl (false, (i : Int)))
      else
        bif (decide ((y.2.1.size : Int) > (12 : Int))) then
          k (.inl (false, (i : Int)))
        else
          bif y.2.2.1 then
            bif (!(vap (y.2.1) (⟨#[]⟩ : ByteArray))) then
              k (.inl (false, (i : Int)))
            else
              via y.2.2.2 (1 : Int) (9999 : Int) (fun y2 =>
                bif (!y2) then
                  k (.inl (false, (i : Int)))
                else
                  bif (decide ((i : Int) > (0 : Int))) then
                    if 0 ≤ (IntKind.wrap .i64 ((i : Int) - (1 : Int))) ∧ (IntKind.wrap .i64 ((i : Int) - (1 : Int))) < (u0.length : Int) then
                      vjr (rd (Ty.zero tVersion) u0 (IntKind.wrap .i64 ((i : Int) - (1 : Int)))) y (fun y3 =>
                        bif (decide (y3 ≥ (0 : Int))) then
                          k (.inl (false, (i : Int)))
                        else
                          vem u0 u1 u2 l (i + 1) k)
                    else none
                  else
                    vem u0 u1 u2 l (i + 1) k)
          else
            via y.2.2.2 (1 : Int) (9999 : Int) (fun y4 =>
              bif (!y4) then
                k (.inl (false, (i : Int)))
              else
                bif (decide ((i : Int) > (0 : Int))) then
                  if 0 ≤ (IntKind.wrap .i64 ((i : Int) - (1 : Int))) ∧ (IntKind.wrap .i64 ((i : Int) - (1 : Int))) < (u0.length : Int) then
                    vjr (rd (Ty.zero tVersion) u0 (IntKind.wrap .i64 ((i : Int) - (1 : Int)))) y (fun y5 =>
                      bif (decide (y5 ≥ (0 : Int))) then
                        k (.inl (false, (i : Int)))
                      else
                        vem u0 u1 u2 l (i + 1) k)
                  else none
                else
                  vem u0 u1 u2 l (i + 1) k))
theorem v3d {u0} {u1} {u2} (h0 : u2.length < 9223372036854775807) {K : (q5T ⊕ q5T) → Option Res} : ∀ (l : List vaa) (i : Nat)  (n : Nat), u2.drop i = l → l.length < n → vah vg6 n (u0, u1, u2, (u2.length : Int), (i : Int)) K = vem u0 u1 u2 l  i (Sum.elim (fun z => K (.inl (u0, z.1, u2, (u2.length : Int), z.2))) (fun z => K (.inr (u0, u1, u2, (u2.length : Int), z)))) := by
  intro l
  induction l with
  | nil =>
    intro i  n hd hn
    have hge := vcx hd
    cases n with
    | zero => exact absurd hn (Nat.not_lt_zero _)
    | succ n => simp only [vah, vg6, vem, hge, decide_false, cond_false, Sum.elim_inr, Sum.elim_inl]
  | cons y l ih =>
    intro i  n hd hn
    obtain ⟨hlt, hz, hd2, hw, hnn⟩ := vc9 hd h0
    have hy := vbx hd
    cases n with
    | zero => exact absurd hn (Nat.not_lt_zero _)
    | succ n =>
      have ih2 := ih (i + 1)  n hd2 (Nat.lt_of_succ_lt_succ hn)
      simp only [vah, vg6, vem, hlt, hz, decide_true, cond_true, and_self, if_true, hy, hw, hnn, Sum.elim_inl, Sum.elim_inr, ih2]
theorem v2j {u0} {u1} {u2} (h0 : u2.length < 9223372036854775807) {K : (q5T ⊕ q5T) → Option Res}  : vah vg6 Fuel (u0, u1, u2, (u2.length : Int), (0 : Int)) K = vem u0 u1 u2 u2  0 (Sum.elim (fun z => K (.inl (u0, z.1, u2, (u2.length : Int), z.2))) (fun z => K (.inr (u0, u1, u2, (u2.length : Int), z)))) :=
  v3d h0 u2 0  Fuel rfl (vdt h0)
def vzy (a0 : (List vaa)) (k : Bool → Option Res) : Option Res :=
  vem a0 false a0 a0  0 (Sum.elim (fun z19 =>
    k z19.1) (fun _ =>
    k (decide ((a0.length : Int) ≤ (120 : Int)))))
theorem v8l {a0 : (List vaa)} (h0 : a0.length < 9223372036854775807) {k : Bool → Option Res} : vlo a0 k = vzy a0 k := by
  rw [vzj]
  simp only [vu8, vzy, (v2j h0), Sum.elim_inl, Sum.elim_inr]
def vgl (u0 : (List vaa)) : List vaa → (List ByteArray) → Nat → ((Int × (List ByteArray)) → Option Res) → Option Res
  | [], s3, i, k =>
    k ((i : Int), s3)
  | y :: l, s3, i, k =>
    if s3.length + [y.1].length ≤ VE.maxLen then
      vgl u0 l (s3 ++ [y.1]) (i + 1) k
    else none
theorem v1y {u0} (h0 : u0.length < 9223372036854775807) {K : q8T → Option Res} : ∀ (l : List vaa) (i : Nat) (s3 : (List ByteArray)) (n : Nat), u0.drop i = l → l.length < n → vah vhk n (u0, (u0.length : Int), (i : Int), s3) K = vgl u0 l s3 i (fun z => K (u0, (u0.length : Int), z.1, z.2)) := by
  intro l
  induction l with
  | nil =>
    intro i s3 n hd hn
    have hge := vcx hd
    cases n with
    | zero => exact absurd hn (Nat.not_lt_zero _)
    | succ n => simp only [vah, vhk, vgl, hge, decide_false, cond_false, Sum.elim_inr, Sum.elim_inl]
  | cons y l ih =>
    intro i s3 n hd hn
    obtain ⟨hlt, hz, hd2, hw, hnn⟩ := vc9 hd h0
    have hy := vbx hd
    cases n with
    | zero => exact absurd hn (Nat.not_lt_zero _)
    | succ n =>
      have ih2 := fun (s3 : (List ByteArray)) => ih (i + 1) s3 n hd2 (Nat.lt_of_succ_lt_succ hn)
      simp only [vah, vhk, vgl, hlt, hz, decide_true, cond_true, and_self, if_true, hy, hw, hnn, Sum.elim_inl, Sum.elim_inr, ih2]
theorem v3z {u0} (h0 : u0.length < 9223372036854775807) {K : q8T → Option Res} {s3 : (List ByteArray)} : vah vhk Fuel (u0, (u0.length : Int), (0 : Int), s3) K = vgl u0 u0 s3 0 (fun z => K (u0, (u0.length : Int), z.1, z.2)) :=
  v1y h0 u0 0 s3 Fuel rfl (vdt h0)
def vzs (a0 : (List vaa)) (k : (List ByteArray) → Option Res) : Option Res :=
  vgl a0 a0 ([] : List ByteArray) 0 (fun z19 =>
    vot z19.2 (fun y20 =>
      vl5 y20 (Sum.elim (fun y21 =>
        k y21) (fun y22 =>
        k y22))))
theorem v6u {a0 : (List vaa)} (h0 : a0.length < 9223372036854775807) {k : (List ByteArray) → Option Res} : vny a0 k = vzs a0 k := by
  rw [v0q]
  simp only [vv4, vzs, (v3z h0), Sum.elim_inl, Sum.elim_inr]
def vgs (u0 : (List vca)) (u1 : (List vca)) (u2 : Bool) : List vca → Nat → (((Bool × Int) ⊕ Int) → Option Res) → Option Res
  | [], i, k =>
    k (.inr (i : Int))
  | y :: l, i, k =>
    if 0 ≤ (i : Int) ∧ (i : Int) < (u1.length : Int) then
      bif (!(Ty.eqB tRange y (rd (Ty.zero tRange) u1 (i : Int)))) then
        k (.inl (false, (i : Int)))
      else
        vgs u0 u1 u2 l (i + 1) k
    else none
theorem v2f {u0} {u1} {u2} (h0 : u0.length < 9223372036854775807) {K : (q3T ⊕ q3T) → Option Res} : ∀ (l : List vca) (i : Nat)  (n : Nat), u0.drop i = l → l.length < n → vah vho n (u0, u1, u2, (i : Int)) K = vgs u0 u1 u2 l  i (Sum.elim (fun z => K (.inl (u0, u1, z.1, z.2))) (fun z => K (.inr (u0, u1, u2, z)))) := by
  intro l
  induction l with
  | nil =>
    intro i  n hd hn
    have hge := vcx hd
    cases n with
    | zero => exact absurd hn (Nat.not_lt_zero _)
    | succ n => simp only [vah, vho, vgs, hge, decide_false, cond_false, Sum.elim_inr, Sum.elim_inl]
  | cons y l ih =>
    intro i  n hd hn
    obtain ⟨hlt, hz, hd2, hw, hnn⟩ := vc9 hd h0
    have hy := vbx hd
    cases n with
    | zero => exact absurd hn (Nat.not_lt_zero _)
    | succ n =>
      have ih2 := ih (i + 1)  n hd2 (Nat.lt_of_succ_lt_succ hn)
      simp only [vah, vho, vgs, hlt, hz, decide_true, cond_true, and_self, if_true, hy, hw, hnn, Sum.elim_inl, Sum.elim_inr, ih2]
theorem v30 {u0} {u1} {u2} (h0 : u0.length < 9223372036854775807) {K : (q3T ⊕ q3T) → Option Res}  : vah vho Fuel (u0, u1, u2, (0 : Int)) K = vgs u0 u1 u2 u0  0 (Sum.elim (fun z => K (.inl (u0, u1, z.1, z.2))) (fun z => K (.inr (u0, u1, u2, z)))) :=
  v2f h0 u0 0  Fuel rfl (vdt h0)
def v1b (a0 : (List vca)) (a1 : (List vca)) (k : Bool → Option Res) : Option Res :=
  bif ((a0.length : Int) != (a1.length : Int)) then
    k false
  else
    vgs a0 a1 false a0  0 (Sum.elim (fun z19 =>
      k z19.1) (fun _ =>
      k true))
theorem v73 {a0 : (List vca)} {a1 : (List vca)} (h0 : a0.length < 9223372036854775807) {k : Bool → Option Res} : vlw a0 a1 k = v1b a0 a1 k := by
  rw [vyq]
  simp only [vwa, v1b, (v30 h0), Sum.elim_inl, Sum.elim_inr]
def vi5 (u0 : (List Int)) (u1 : Bool) (u3 : (List vaa)) (u4 : (List vak)) (u5 : (List vaa)) : List vak → Nat → (((Bool × Int) ⊕ Int) → Option Res) → Option Res
  | [], i, k =>
    k (.inr (i : Int))
  | y :: l, i, k =>
    vfk u5 y.1 (50 : Int) (fun y1 =>
      vfk u5 y.1 (49 : Int) (fun y2 =>
        vfk u3 y.1 (49 : Int) (fun y3 =>
          bif (y1.2 == y.2.2) then
            k (.inl (false, (i : Int)))
          else
            bif (!(vap y1.1 (y.2.1))) then
              k (.inl (false, (i : Int)))
            else
              bif (!(vap y2.1 y3.1)) then
                k (.inl (false, (i : Int)))
              else
                bif (!(y2.2 == y3.2)) then
                  k (.inl (false, (i : Int)))
                else
                  vi5 u0 u1 u3 u4 u5 l (i + 1) k)))
theorem v18 {u0} {u1} {u3} {u4} {u5} (h0 : u4.length < 9223372036854775807) {K : (q0T ⊕ q0T) → Option Res} : ∀ (l : List vak) (i : Nat)  (n : Nat), u4.drop i = l → l.length < n → vah vge n (u0, u1, (i : Int), u3, u4, u5) K = vi5 u0 u1 u3 u4 u5 l  i (Sum.elim (fun z => K (.inl (u0, z.1, z.2, u3, u4, u5))) (fun z => K (.inr (u0, u1, z, u3, u4, u5)))) := by
  intro l
  induction l with
  | nil =>
    intro i  n hd hn
    have hge := vcx hd
    cases n with
    | zero => exact absurd hn (Nat.not_lt_zero _)
    | succ n => simp only [vah, vge, vi5, hge, decide_false, cond_false, Sum.elim_inr, Sum.elim_inl]
  | cons y l ih =>
    intro i  n hd hn
    obtain ⟨hlt, hz, hd2, hw, hnn⟩ := vc9 hd h0
    have hy := vbx hd
    cases n with
    | zero => exact absurd hn (Nat.not_lt_zero _)
    | succ n =>
      have ih2 := ih (i + 1)  n hd2 (Nat.lt_of_succ_lt_succ hn)
      simp only [vah, vge, vi5, hlt, hz, decide_true, cond_true, and_self, if_true, hy, hw, hnn, Sum.elim_inl, Sum.elim_inr, ih2]
theorem v2i {u0} {u1} {u3} {u4} {u5} (h0 : u4.length < 9223372036854775807) {K : (q0T ⊕ q0T) → Option Res}  : vah vge Fuel (u0, u1, (0 : Int), u3, u4, u5) K = vi5 u0 u1 u3 u4 u5 u4  0 (Sum.elim (fun z => K (.inl (u0, z.1, z.2, u3, u4, u5))) (fun z => K (.inr (u0, u1, z, u3, u4, u5)))) :=
  v18 h0 u4 0  Fuel rfl (vdt h0)
def v08 (a0 : (List Int)) (k : Bool → Option Res) : Option Res :=
  vnw a0 (fun y19 =>
    bif y19 then
      k true
    else
      vos a0 (fun y20 =>
        vnh a0 (fun y21 =>
          vme y20 y21 (50 : Int) (fun y22 =>
            vah vge Fuel (a0, false, (0 : Int), y20, y21, y22) (Sum.elim (fun z23 =>
              k z23.2.1) (fun z24 =>
              voi z24.1 (fun y25 =>
                vfk y25.2.2 y25.1 y25.2.1 (fun y26 =>
                  vn5 y25.2.2 y25.1 y25.2.1 (fun y27 =>
                    vlo z24.2.2.2.2.2 (fun y28 =>
                      bif y28 then
                        bif ((z24.2.2.2.2.2.length : Int) == (IntKind.wrap .i64 ((z24.2.2.2.1.length : Int) + (z24.2.2.2.2.1.length : Int)))) then
                          bif (vap y26.1 y27.1) then
                            bif (y26.2 == y27.2) then
                              vmc  (fun y29 =>
                                vki z24.2.2.2.2.2 y29 (49 : Int) (fun y30 =>
                                  vmc  (fun y31 =>
                                    vki z24.2.2.2.1 y31 (49 : Int) (fun y32 =>
                                      vlw y30 y32 (fun y33 =>
                                        k y33)))))
                            else
                              k false
                          else
                            k false
                        else
                          k false
                      else
                        k false))))))))))
theorem v72 {a0 : (List Int)}  {k : Bool → Option Res} : vsf a0 k = v08 a0 k := by
  rw [vzm]
  simp only [vwp, v08, Sum.elim_inl, Sum.elim_inr]
end
end Go.VE
