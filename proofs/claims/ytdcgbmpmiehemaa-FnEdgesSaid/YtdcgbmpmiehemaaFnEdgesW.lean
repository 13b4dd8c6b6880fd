/- Loops told as recursions over what is left; written by gen.py. -/

import Derived.Test.YtdcgbmpmiehemaaFnEdgesN

import Derived.Test.YtdcgbmpmiehemaaP1

namespace Go.VE

noncomputable section

set_option linter.unusedVariables false
set_option linter.unusedSimpArgs false
set_option maxRecDepth 100000


def spec_l01New_wj6000001 (u0 : (List Int)) (u1 : Int) (u2 : Int) (k : (Int × Int) → Option Res) : Option Res :=
    if 0 ≤ u2 ∧ u2 < (u0.length : Int) then
      k ((IntKind.wrap .i64 (BitVec.ofInt (IntKind.bits .i64) (IntKind.wrap .i64 ((IntKind.wrap .i64 ((IntKind.wrap .i64 (u1 * (131 : Int))) + (IntKind.wrap .i64 (rd (Ty.zero (.int .u8)) u0 u2)))) + (7 : Int))) &&& BitVec.ofInt (IntKind.bits .i64) (1073741823 : Int)).toNat), (IntKind.wrap .i64 (u2 + (1 : Int))))
    else none

theorem spec_l01New_wz6000001 {u0 : (List Int)} {u1 : Int} {u2 : Int}  {K : ((List Int) × Int × Int) → Option Res} : spec_l01New_j6000001 (u0, u1, u2) K = spec_l01New_wj6000001 u0 u1 u2 (fun z => K (u0, z.1, z.2)) := by
  simp only [spec_l01New_j6000001, spec_l01New_wj6000001, Sum.elim_inl, Sum.elim_inr]

def spec_l01New_t (a0 : (List Int)) (k : ((List Int) × Int × Int) → Option Res) : Option Res :=
  loopK spec_l01New_b0 Fuel (a0, (IntKind.wrap .i64 ((77601 : Int) + (a0.length : Int))), (0 : Int)) (fun z23 =>
    k (z23.1, (0 : Int), z23.2.1))

theorem spec_l01New_r {a0 : (List Int)}  {k : ((List Int) × Int × Int) → Option Res} : spec_l01New_k a0 k = spec_l01New_t a0 k := by
  rw [spec_l01New_e]
  simp only [spec_l01New_d, spec_l01New_t, Sum.elim_inl, Sum.elim_inr]

def spec_l05Ranges_t (a0 : (List Int)) (a1 : Int) (a2 : Int) (k : ((List Int) × Int × Int × (List dRange)) → Option Res) : Option Res :=
  loopK spec_l05Ranges_b0 Fuel ((0 : Int), a0, a1, a2, ([] : List dRange)) (fun z23 =>
    k (z23.2.1, z23.2.2.1, z23.2.2.2.1, z23.2.2.2.2))

theorem spec_l05Ranges_r {a0 : (List Int)} {a1 : Int} {a2 : Int}  {k : ((List Int) × Int × Int × (List dRange)) → Option Res} : spec_l05Ranges_k a0 a1 a2 k = spec_l05Ranges_t a0 a1 a2 k := by
  rw [spec_l05Ranges_e]
  simp only [spec_l05Ranges_d, spec_l05Ranges_t, Sum.elim_inl, Sum.elim_inr]

def spec_PutWrite_w0 (u0 : (List dWrite)) (u2 : ByteArray) (u3 : ByteArray) (u4 : Bool) : List dWrite → (List dWrite) → Nat → ((Int × (List dWrite)) → Option Res) → Option Res
  | [], s5, i, k =>
    k ((i : Int), s5)
  | y :: l, s5, i, k =>
    bif (strLess (y.1) u2) then
      if s5.length + [y].length ≤ VE.maxLen then
        spec_PutWrite_w0 u0 u2 u3 u4 l (s5 ++ [y]) (i + 1) k
      else none
    else
      spec_PutWrite_w0 u0 u2 u3 u4 l s5 (i + 1) k

theorem spec_PutWrite_lw0 {u0 : (List dWrite)} {u2 : ByteArray} {u3 : ByteArray} {u4 : Bool} (h0 : u0.length < 9223372036854775807) {K : ((List dWrite) × Int × ByteArray × ByteArray × Bool × (List dWrite)) → Option Res} : ∀ (l : List dWrite) (i : Nat) (s5 : (List dWrite)) (n : Nat), u0.drop i = l → l.length < n → loopK spec_PutWrite_b0 n (u0, (i : Int), u2, u3, u4, s5) K = spec_PutWrite_w0 u0 u2 u3 u4 l s5 i (fun z => K (u0, z.1, u2, u3, u4, z.2)) := by
  intro l
  induction l with
  | nil =>
    intro i s5 n hd hn
    have hge := lwl_nil hd
    cases n with
    | zero => exact absurd hn (Nat.not_lt_zero _)
    | succ n => simp only [loopK, spec_PutWrite_b0, spec_PutWrite_w0, hge, decide_false, cond_false, Sum.elim_inr, Sum.elim_inl]
  | cons y l ih =>
    intro i s5 n hd hn
    obtain ⟨hlt, hz, hd2, hw, hnn⟩ := lwl_cons hd h0
    have hy := lwl_get hd
    cases n with
    | zero => exact absurd hn (Nat.not_lt_zero _)
    | succ n =>
      have ih2 := fun (s5 : (List dWrite)) => ih (i + 1) s5 n hd2 (Nat.lt_of_succ_lt_succ hn)
      simp only [loopK, spec_PutWrite_b0, spec_PutWrite_w0, hlt, hz, decide_true, cond_true, and_self, if_true, hy, hw, hnn, Sum.elim_inl, Sum.elim_inr, ih2]

theorem spec_PutWrite_lz0 {u0 : (List dWrite)} {u2 : ByteArray} {u3 : ByteArray} {u4 : Bool} (h0 : u0.length < 9223372036854775807) {K : ((List dWrite) × Int × ByteArray × ByteArray × Bool × (List dWrite)) → Option Res} {s5 : (List dWrite)} : loopK spec_PutWrite_b0 Fuel (u0, (0 : Int), u2, u3, u4, s5) K = spec_PutWrite_w0 u0 u2 u3 u4 u0 s5 0 (fun z => K (u0, z.1, u2, u3, u4, z.2)) :=
  spec_PutWrite_lw0 h0 u0 0 s5 Fuel rfl (lwl_fuel h0)

def spec_PutWrite_w2 (u0 : (List dWrite)) (u2 : ByteArray) (u3 : ByteArray) (u4 : Bool) : List dWrite → (List dWrite) → Nat → ((Int × (List dWrite)) → Option Res) → Option Res
  | [], s5, i, k =>
    k ((i : Int), s5)
  | y :: l, s5, i, k =>
    bif (!((strLess (y.1) u2) || (strEq (y.1) u2))) then
      if s5.length + [y].length ≤ VE.maxLen then
        spec_PutWrite_w2 u0 u2 u3 u4 l (s5 ++ [y]) (i + 1) k
      else none
    else
      spec_PutWrite_w2 u0 u2 u3 u4 l s5 (i + 1) k

theorem spec_PutWrite_lw2 {u0 : (List dWrite)} {u2 : ByteArray} {u3 : ByteArray} {u4 : Bool} (h0 : u0.length < 9223372036854775807) {K : ((List dWrite) × Int × ByteArray × ByteArray × Bool × (List dWrite)) → Option Res} : ∀ (l : List dWrite) (i : Nat) (s5 : (List dWrite)) (n : Nat), u0.drop i = l → l.length < n → loopK spec_PutWrite_b2 n (u0, (i : Int), u2, u3, u4, s5) K = spec_PutWrite_w2 u0 u2 u3 u4 l s5 i (fun z => K (u0, z.1, u2, u3, u4, z.2)) := by
  intro l
  induction l with
  | nil =>
    intro i s5 n hd hn
    have hge := lwl_nil hd
    cases n with
    | zero => exact absurd hn (Nat.not_lt_zero _)
    | succ n => simp only [loopK, spec_PutWrite_b2, spec_PutWrite_w2, hge, decide_false, cond_false, Sum.elim_inr, Sum.elim_inl]
  | cons y l ih =>
    intro i s5 n hd hn
    obtain ⟨hlt, hz, hd2, hw, hnn⟩ := lwl_cons hd h0
    have hy := lwl_get hd
    cases n with
    | zero => exact absurd hn (Nat.not_lt_zero _)
    | succ n =>
      have ih2 := fun (s5 : (List dWrite)) => ih (i + 1) s5 n hd2 (Nat.lt_of_succ_lt_succ hn)
      simp only [loopK, spec_PutWrite_b2, spec_PutWrite_w2, hlt, hz, decide_true, cond_true, and_self, if_true, hy, hw, hnn, Sum.elim_inl, Sum.elim_inr, ih2]

theorem spec_PutWrite_lz2 {u0 : (List dWrite)} {u2 : ByteArray} {u3 : ByteArray} {u4 : Bool} (h0 : u0.length < 9223372036854775807) {K : ((List dWrite) × Int × ByteArray × ByteArray × Bool × (List dWrite)) → Option Res} {s5 : (List dWrite)} : loopK spec_PutWrite_b2 Fuel (u0, (0 : Int), u2, u3, u4, s5) K = spec_PutWrite_w2 u0 u2 u3 u4 u0 s5 0 (fun z => K (u0, z.1, u2, u3, u4, z.2)) :=
  spec_PutWrite_lw2 h0 u0 0 s5 Fuel rfl (lwl_fuel h0)

def spec_PutWrite_t (a0 : (List dWrite)) (a1 : dWrite) (k : (List dWrite) → Option Res) : Option Res :=
  spec_PutWrite_w0 a0 a1.1 a1.2.1 a1.2.2 a0 ([] : List dWrite) 0 (fun z23 =>
    if z23.2.length + [a1].length ≤ VE.maxLen then
      spec_PutWrite_w2 a0 a1.1 a1.2.1 a1.2.2 a0 (z23.2 ++ [a1]) 0 (fun z24 =>
        k z24.2)
    else none)

theorem spec_PutWrite_r {a0 : (List dWrite)} {a1 : dWrite} (h0 : a0.length < 9223372036854775807) {k : (List dWrite) → Option Res} : spec_PutWrite_k a0 a1 k = spec_PutWrite_t a0 a1 k := by
  rw [spec_PutWrite_e]
  simp only [spec_PutWrite_d, spec_PutWrite_t, (spec_PutWrite_lz2 h0), (spec_PutWrite_lz0 h0), Sum.elim_inl, Sum.elim_inr]

def spec_l05Writes_t (a0 : (List Int)) (a1 : Int) (a2 : Int) (k : ((List Int) × Int × Int × (List dWrite)) → Option Res) : Option Res :=
  loopK spec_l05Writes_b0 Fuel ((0 : Int), a0, a1, a2, ([] : List dWrite)) (fun z23 =>
    k (z23.2.1, z23.2.2.1, z23.2.2.2.1, z23.2.2.2.2))

theorem spec_l05Writes_r {a0 : (List Int)} {a1 : Int} {a2 : Int}  {k : ((List Int) × Int × Int × (List dWrite)) → Option Res} : spec_l05Writes_k a0 a1 a2 k = spec_l05Writes_t a0 a1 a2 k := by
  rw [spec_l05Writes_e]
  simp only [spec_l05Writes_d, spec_l05Writes_t, Sum.elim_inl, Sum.elim_inr]

def spec_l01Long_t (a0 : Int) (a1 : Int) (k : ByteArray → Option Res) : Option Res :=
  if 0 ≤ a0 ∧ a0 ≤ a0 ∧ a0 ≤ (VE.maxLen : Int) then
    loopK spec_l01Long_b0 Fuel (a0, a1, (0 : Int), (List.replicate a0.toNat (Ty.zero (.int .u8)))) (fun z23 =>
      k (bytesOf z23.2.2.2))
  else none

theorem spec_l01Long_r {a0 : Int} {a1 : Int}  {k : ByteArray → Option Res} : spec_l01Long_k a0 a1 k = spec_l01Long_t a0 a1 k := by
  rw [spec_l01Long_e]
  simp only [spec_l01Long_d, spec_l01Long_t, Sum.elim_inl, Sum.elim_inr]

def impl_Touches_w2 (u0 : (List dWrite)) (u1 : Bool) (u2 : (List dRange)) (u3 : Int) (u4 : Int) (u5 : (List dWrite)) (u8 : ByteArray) (u9 : ByteArray) : List dWrite → Nat → (((Bool × Int) ⊕ Int) → Option Res) → Option Res
  | [], i, k =>
    k (.inr (i : Int))
  | y :: l, i, k =>
    impl_InRange_k (u8, u9) y.1 (fun y1 =>
      bif y1 then
        k (.inl (true, (i : Int)))
      else
        impl_Touches_w2 u0 u1 u2 u3 u4 u5 u8 u9 l (i + 1) k)

theorem impl_Touches_lw2 {u0 : (List dWrite)} {u1 : Bool} {u2 : (List dRange)} {u3 : Int} {u4 : Int} {u5 : (List dWrite)} {u8 : ByteArray} {u9 : ByteArray} (h0 : u5.length < 9223372036854775807) {K : (((List dWrite) × Bool × (List dRange) × Int × Int × (List dWrite) × Int × Int × ByteArray × ByteArray) ⊕ ((List dWrite) × Bool × (List dRange) × Int × Int × (List dWrite) × Int × Int × ByteArray × ByteArray)) → Option Res} : ∀ (l : List dWrite) (i : Nat)  (n : Nat), u5.drop i = l → l.length < n → loopK impl_Touches_b2 n (u0, u1, u2, u3, u4, u5, (u5.length : Int), (i : Int), u8, u9) K = impl_Touches_w2 u0 u1 u2 u3 u4 u5 u8 u9 l  i (Sum.elim (fun z => K (.inl (u0, z.1, u2, u3, u4, u5, (u5.length : Int), z.2, u8, u9))) (fun z => K (.inr (u0, u1, u2, u3, u4, u5, (u5.length : Int), z, u8, u9)))) := by
  intro l
  induction l with
  | nil =>
    intro i  n hd hn
    have hge := lwl_nil hd
    cases n with
    | zero => exact absurd hn (Nat.not_lt_zero _)
    | succ n => simp only [loopK, impl_Touches_b2, impl_Touches_w2, hge, decide_false, cond_false, Sum.elim_inr, Sum.elim_inl]
  | cons y l ih =>
    intro i  n hd hn
    obtain ⟨hlt, hz, hd2, hw, hnn⟩ := lwl_cons hd h0
    have hy := lwl_get hd
    cases n with
    | zero => exact absurd hn (Nat.not_lt_zero _)
    | succ n =>
      have ih2 := ih (i + 1)  n hd2 (Nat.lt_of_succ_lt_succ hn)
      simp only [loopK, impl_Touches_b2, impl_Touches_w2, hlt, hz, decide_true, cond_true, and_self, if_true, hy, hw, hnn, Sum.elim_inl, Sum.elim_inr, ih2]

theorem impl_Touches_lz2 {u0 : (List dWrite)} {u1 : Bool} {u2 : (List dRange)} {u3 : Int} {u4 : Int} {u5 : (List dWrite)} {u8 : ByteArray} {u9 : ByteArray} (h0 : u5.length < 9223372036854775807) {K : (((List dWrite) × Bool × (List dRange) × Int × Int × (List dWrite) × Int × Int × ByteArray × ByteArray) ⊕ ((List dWrite) × Bool × (List dRange) × Int × Int × (List dWrite) × Int × Int × ByteArray × ByteArray)) → Option Res}  : loopK impl_Touches_b2 Fuel (u0, u1, u2, u3, u4, u5, (u5.length : Int), (0 : Int), u8, u9) K = impl_Touches_w2 u0 u1 u2 u3 u4 u5 u8 u9 u5  0 (Sum.elim (fun z => K (.inl (u0, z.1, u2, u3, u4, u5, (u5.length : Int), z.2, u8, u9))) (fun z => K (.inr (u0, u1, u2, u3, u4, u5, (u5.length : Int), z, u8, u9)))) :=
  impl_Touches_lw2 h0 u5 0  Fuel rfl (lwl_fuel h0)

def impl_Touches_w0 (u0 : (List dWrite)) (u1 : Bool) (u2 : (List dRange)) : List dRange → Nat → ((Int ⊕ (Bool × Int)) → Option Res) → Option Res
  | [], i, k =>
    k (.inl (i : Int))
  | y :: l, i, k =>
    impl_Touches_w2 u0 u1 u2 (u2.length : Int) (i : Int) u0 y.1 y.2 u0  0 (Sum.elim (fun z1 =>
      k (.inr (z1.1, (i : Int)))) (fun _ =>
      impl_Touches_w0 u0 u1 u2 l (i + 1) k))

theorem impl_Touches_lw0 {u0 : (List dWrite)} {u1 : Bool} {u2 : (List dRange)} (h0 : u2.length < 9223372036854775807) (h1 : u0.length < 9223372036854775807) {K : (((List dWrite) × Bool × (List dRange) × Int × Int) ⊕ ((List dWrite) × Bool × (List dRange) × Int × Int)) → Option Res} : ∀ (l : List dRange) (i : Nat)  (n : Nat), u2.drop i = l → l.length < n → loopK impl_Touches_b0 n (u0, u1, u2, (u2.length : Int), (i : Int)) K = impl_Touches_w0 u0 u1 u2 l  i (Sum.elim (fun z => K (.inl (u0, u1, u2, (u2.length : Int), z))) (fun z => K (.inr (u0, z.1, u2, (u2.length : Int), z.2)))) := by
  intro l
  induction l with
  | nil =>
    intro i  n hd hn
    have hge := lwl_nil hd
    cases n with
    | zero => exact absurd hn (Nat.not_lt_zero _)
    | succ n => simp only [loopK, impl_Touches_b0, impl_Touches_w0, hge, decide_false, cond_false, Sum.elim_inr, Sum.elim_inl, (impl_Touches_lz2 h1)]
  | cons y l ih =>
    intro i  n hd hn
    obtain ⟨hlt, hz, hd2, hw, hnn⟩ := lwl_cons hd h0
    have hy := lwl_get hd
    cases n with
    | zero => exact absurd hn (Nat.not_lt_zero _)
    | succ n =>
      have ih2 := ih (i + 1)  n hd2 (Nat.lt_of_succ_lt_succ hn)
      simp only [loopK, impl_Touches_b0, impl_Touches_w0, hlt, hz, decide_true, cond_true, and_self, if_true, hy, hw, hnn, Sum.elim_inl, Sum.elim_inr, ih2, (impl_Touches_lz2 h1)]

theorem impl_Touches_lz0 {u0 : (List dWrite)} {u1 : Bool} {u2 : (List dRange)} (h0 : u2.length < 9223372036854775807) (h1 : u0.length < 9223372036854775807) {K : (((List dWrite) × Bool × (List dRange) × Int × Int) ⊕ ((List dWrite) × Bool × (List dRange) × Int × Int)) → Option Res}  : loopK impl_Touches_b0 Fuel (u0, u1, u2, (u2.length : Int), (0 : Int)) K = impl_Touches_w0 u0 u1 u2 u2  0 (Sum.elim (fun z => K (.inl (u0, u1, u2, (u2.length : Int), z))) (fun z => K (.inr (u0, z.1, u2, (u2.length : Int), z.2)))) :=
  impl_Touches_lw0 h0 h1 u2 0  Fuel rfl (lwl_fuel h0)

def impl_Touches_t (a0 : (List dRange)) (a1 : (List dWrite)) (k : Bool → Option Res) : Option Res :=
  impl_Touches_w0 a1 false a0 a0  0 (Sum.elim (fun _ =>
    k false) (fun z24 =>
    k z24.1))

theorem impl_Touches_r {a0 : (List dRange)} {a1 : (List dWrite)} (h0 : a0.length < 9223372036854775807) (h1 : a1.length < 9223372036854775807) {k : Bool → Option Res} : impl_Touches_k a0 a1 k = impl_Touches_t a0 a1 k := by
  rw [impl_Touches_e]
  simp only [impl_Touches_d, impl_Touches_t, (impl_Touches_lz0 h0 h1), Sum.elim_inl, Sum.elim_inr]

def spec_Touches_w2 (u0 : (List dRange)) (u1 : (List dWrite)) (u2 : Bool) (u3 : Int) : List dWrite → Nat → (((Bool × Int) ⊕ Int) → Option Res) → Option Res
  | [], i, k =>
    k (.inr (i : Int))
  | y :: l, i, k =>
    if 0 ≤ u3 ∧ u3 < (u0.length : Int) then
      spec_InRange_k (rd (Ty.zero tRange) u0 u3) y.1 (fun y1 =>
        bif y1 then
          k (.inl (true, (i : Int)))
        else
          spec_Touches_w2 u0 u1 u2 u3 l (i + 1) k)
    else none

theorem spec_Touches_lw2 {u0 : (List dRange)} {u1 : (List dWrite)} {u2 : Bool} {u3 : Int} (h0 : u1.length < 9223372036854775807) {K : (((List dRange) × (List dWrite) × Bool × Int × Int) ⊕ ((List dRange) × (List dWrite) × Bool × Int × Int)) → Option Res} : ∀ (l : List dWrite) (i : Nat)  (n : Nat), u1.drop i = l → l.length < n → loopK spec_Touches_b2 n (u0, u1, u2, u3, (i : Int)) K = spec_Touches_w2 u0 u1 u2 u3 l  i (Sum.elim (fun z => K (.inl (u0, u1, z.1, u3, z.2))) (fun z => K (.inr (u0, u1, u2, u3, z)))) := by
  intro l
  induction l with
  | nil =>
    intro i  n hd hn
    have hge := lwl_nil hd
    cases n with
    | zero => exact absurd hn (Nat.not_lt_zero _)
    | succ n => simp only [loopK, spec_Touches_b2, spec_Touches_w2, hge, decide_false, cond_false, Sum.elim_inr, Sum.elim_inl]
  | cons y l ih =>
    intro i  n hd hn
    obtain ⟨hlt, hz, hd2, hw, hnn⟩ := lwl_cons hd h0
    have hy := lwl_get hd
    cases n with
    | zero => exact absurd hn (Nat.not_lt_zero _)
    | succ n =>
      have ih2 := ih (i + 1)  n hd2 (Nat.lt_of_succ_lt_succ hn)
      simp only [loopK, spec_Touches_b2, spec_Touches_w2, hlt, hz, decide_true, cond_true, and_self, if_true, hy, hw, hnn, Sum.elim_inl, Sum.elim_inr, ih2]

theorem spec_Touches_lz2 {u0 : (List dRange)} {u1 : (List dWrite)} {u2 : Bool} {u3 : Int} (h0 : u1.length < 9223372036854775807) {K : (((List dRange) × (List dWrite) × Bool × Int × Int) ⊕ ((List dRange) × (List dWrite) × Bool × Int × Int)) → Option Res}  : loopK spec_Touches_b2 Fuel (u0, u1, u2, u3, (0 : Int)) K = spec_Touches_w2 u0 u1 u2 u3 u1  0 (Sum.elim (fun z => K (.inl (u0, u1, z.1, u3, z.2))) (fun z => K (.inr (u0, u1, u2, u3, z)))) :=
  spec_Touches_lw2 h0 u1 0  Fuel rfl (lwl_fuel h0)

def spec_Touches_w0 (u0 : (List dRange)) (u1 : (List dWrite)) (u2 : Bool) : List dRange → Nat → ((Int ⊕ (Bool × Int)) → Option Res) → Option Res
  | [], i, k =>
    k (.inl (i : Int))
  | y :: l, i, k =>
    spec_Touches_w2 u0 u1 u2 (i : Int) u1  0 (Sum.elim (fun z1 =>
      k (.inr (z1.1, (i : Int)))) (fun _ =>
      spec_Touches_w0 u0 u1 u2 l (i + 1) k))

theorem spec_Touches_lw0 {u0 : (List dRange)} {u1 : (List dWrite)} {u2 : Bool} (h0 : u0.length < 9223372036854775807) (h1 : u1.length < 9223372036854775807) {K : (((List dRange) × (List dWrite) × Bool × Int) ⊕ ((List dRange) × (List dWrite) × Bool × Int)) → Option Res} : ∀ (l : List dRange) (i : Nat)  (n : Nat), u0.drop i = l → l.length < n → loopK spec_Touches_b0 n (u0, u1, u2, (i : Int)) K = spec_Touches_w0 u0 u1 u2 l  i (Sum.elim (fun z => K (.inl (u0, u1, u2, z))) (fun z => K (.inr (u0, u1, z.1, z.2)))) := by
  intro l
  induction l with
  | nil =>
    intro i  n hd hn
    have hge := lwl_nil hd
    cases n with
    | zero => exact absurd hn (Nat.not_lt_zero _)
    | succ n => simp only [loopK, spec_Touches_b0, spec_Touches_w0, hge, decide_false, cond_false, Sum.elim_inr, Sum.elim_inl, (spec_Touches_lz2 h1)]
  | cons y l ih =>
    intro i  n hd hn
    obtain ⟨hlt, hz, hd2, hw, hnn⟩ := lwl_cons hd h0
    have hy := lwl_get hd
    cases n with
    | zero => exact absurd hn (Nat.not_lt_zero _)
    | succ n =>
      have ih2 := ih (i + 1)  n hd2 (Nat.lt_of_succ_lt_succ hn)
      simp only [loopK, spec_Touches_b0, spec_Touches_w0, hlt, hz, decide_true, cond_true, and_self, if_true, hy, hw, hnn, Sum.elim_inl, Sum.elim_inr, ih2, (spec_Touches_lz2 h1)]

theorem spec_Touches_lz0 {u0 : (List dRange)} {u1 : (List dWrite)} {u2 : Bool} (h0 : u0.length < 9223372036854775807) (h1 : u1.length < 9223372036854775807) {K : (((List dRange) × (List dWrite) × Bool × Int) ⊕ ((List dRange) × (List dWrite) × Bool × Int)) → Option Res}  : loopK spec_Touches_b0 Fuel (u0, u1, u2, (0 : Int)) K = spec_Touches_w0 u0 u1 u2 u0  0 (Sum.elim (fun z => K (.inl (u0, u1, u2, z))) (fun z => K (.inr (u0, u1, z.1, z.2)))) :=
  spec_Touches_lw0 h0 h1 u0 0  Fuel rfl (lwl_fuel h0)

def spec_Touches_t (a0 : (List dRange)) (a1 : (List dWrite)) (k : Bool → Option Res) : Option Res :=
  spec_Touches_w0 a0 a1 false a0  0 (Sum.elim (fun _ =>
    k false) (fun z24 =>
    k z24.1))

theorem spec_Touches_r {a0 : (List dRange)} {a1 : (List dWrite)} (h0 : a0.length < 9223372036854775807) (h1 : a1.length < 9223372036854775807) {k : Bool → Option Res} : spec_Touches_k a0 a1 k = spec_Touches_t a0 a1 k := by
  rw [spec_Touches_e]
  simp only [spec_Touches_d, spec_Touches_t, (spec_Touches_lz0 h0 h1), Sum.elim_inl, Sum.elim_inr]

def laws_FnEdges_wj5000006 (u0 : (List Int)) (u1 : Bool) (u2 : Bool) (u3 : Bool) (u4 : Int) (u5 : Int) (u6 : Int) (u7 : Int) (u8 : Bool) (u9 : ByteArray) (u10 : Int) (u11 : Int) (u12 : Int) (u13 : Int) (u14 : Bool) (u15 : ByteArray) (u16 : (List dRange)) (u17 : (List dWrite)) (u18 : (List dRange)) (u19 : (List dWrite)) (k : Bool → Option Res) : Option Res :=
    spec_DrawAhead_k u0 (fun y1 =>
      bif (u2 == (!u3)) then
        impl_Beside_k (u10, (u11, (u12, (u13, (u18, (u19, (u14, u15))))))) (u4, (u5, (u6, (u7, (u16, (u17, (u8, u9))))))) (fun y2 =>
          bif (u2 == y2) then
            impl_Ahead_k (u4, (u5, (u6, (u7, (u16, (u17, (u8, u9))))))) (u10, (u11, (u12, (u13, (u18, (u19, (u14, u15))))))) (fun y3 =>
              bif u2 then
                spec_Touches_k u16 u19 (fun y4 =>
                  bif (y3 == y4) then
                    impl_Ahead_k (y1.1, (y1.2.1, (y1.2.2.1, (y1.2.2.2.1, (y1.2.2.2.2.2.2.2.2.2.2.2.2.1, (y1.2.2.2.2.2.2.2.2.2.2.2.2.2.1, (y1.2.2.2.2.1, y1.2.2.2.2.2.1))))))) (y1.2.2.2.2.2.2.1, (y1.2.2.2.2.2.2.2.1, (y1.2.2.2.2.2.2.2.2.1, (y1.2.2.2.2.2.2.2.2.2.1, (y1.2.2.2.2.2.2.2.2.2.2.2.2.2.2.1, (y1.2.2.2.2.2.2.2.2.2.2.2.2.2.2.2, (y1.2.2.2.2.2.2.2.2.2.2.1, y1.2.2.2.2.2.2.2.2.2.2.2.1))))))) (fun y5 =>
                      spec_Ahead_k (y1.1, (y1.2.1, (y1.2.2.1, (y1.2.2.2.1, (y1.2.2.2.2.2.2.2.2.2.2.2.2.1, (y1.2.2.2.2.2.2.2.2.2.2.2.2.2.1, (y1.2.2.2.2.1, y1.2.2.2.2.2.1))))))) (y1.2.2.2.2.2.2.1, (y1.2.2.2.2.2.2.2.1, (y1.2.2.2.2.2.2.2.2.1, (y1.2.2.2.2.2.2.2.2.2.1, (y1.2.2.2.2.2.2.2.2.2.2.2.2.2.2.1, (y1.2.2.2.2.2.2.2.2.2.2.2.2.2.2.2, (y1.2.2.2.2.2.2.2.2.2.2.1, y1.2.2.2.2.2.2.2.2.2.2.2.1))))))) (fun y6 =>
                        bif (y5 == y6) then
                          impl_Beside_k (y1.1, (y1.2.1, (y1.2.2.1, (y1.2.2.2.1, (y1.2.2.2.2.2.2.2.2.2.2.2.2.1, (y1.2.2.2.2.2.2.2.2.2.2.2.2.2.1, (y1.2.2.2.2.1, y1.2.2.2.2.2.1))))))) (y1.2.2.2.2.2.2.1, (y1.2.2.2.2.2.2.2.1, (y1.2.2.2.2.2.2.2.2.1, (y1.2.2.2.2.2.2.2.2.2.1, (y1.2.2.2.2.2.2.2.2.2.2.2.2.2.2.1, (y1.2.2.2.2.2.2.2.2.2.2.2.2.2.2.2, (y1.2.2.2.2.2.2.2.2.2.2.1, y1.2.2.2.2.2.2.2.2.2.2.2.1))))))) (fun y7 =>
                            spec_Beside_k (y1.1, (y1.2.1, (y1.2.2.1, (y1.2.2.2.1, (y1.2.2.2.2.2.2.2.2.2.2.2.2.1, (y1.2.2.2.2.2.2.2.2.2.2.2.2.2.1, (y1.2.2.2.2.1, y1.2.2.2.2.2.1))))))) (y1.2.2.2.2.2.2.1, (y1.2.2.2.2.2.2.2.1, (y1.2.2.2.2.2.2.2.2.1, (y1.2.2.2.2.2.2.2.2.2.1, (y1.2.2.2.2.2.2.2.2.2.2.2.2.2.2.1, (y1.2.2.2.2.2.2.2.2.2.2.2.2.2.2.2, (y1.2.2.2.2.2.2.2.2.2.2.1, y1.2.2.2.2.2.2.2.2.2.2.2.1))))))) (fun y8 =>
                              bif (y7 == y8) then
                                impl_Ahead_k (u4, (u5, (u6, (u7, (u16, (u17, (u8, u9))))))) (u4, (u5, (u6, (u7, (u16, (u17, (u8, u9))))))) (fun y9 =>
                                  k (!y9))
                              else
                                k false))
                        else
                          k false))
                  else
                    k false)
              else
                bif (y3 == false) then
                  impl_Ahead_k (y1.1, (y1.2.1, (y1.2.2.1, (y1.2.2.2.1, (y1.2.2.2.2.2.2.2.2.2.2.2.2.1, (y1.2.2.2.2.2.2.2.2.2.2.2.2.2.1, (y1.2.2.2.2.1, y1.2.2.2.2.2.1))))))) (y1.2.2.2.2.2.2.1, (y1.2.2.2.2.2.2.2.1, (y1.2.2.2.2.2.2.2.2.1, (y1.2.2.2.2.2.2.2.2.2.1, (y1.2.2.2.2.2.2.2.2.2.2.2.2.2.2.1, (y1.2.2.2.2.2.2.2.2.2.2.2.2.2.2.2, (y1.2.2.2.2.2.2.2.2.2.2.1, y1.2.2.2.2.2.2.2.2.2.2.2.1))))))) (fun y10 =>
                    spec_Ahead_k (y1.1, (y1.2.1, (y1.2.2.1, (y1.2.2.2.1, (y1.2.2.2.2.2.2.2.2.2.2.2.2.1, (y1.2.2.2.2.2.2.2.2.2.2.2.2.2.1, (y1.2.2.2.2.1, y1.2.2.2.2.2.1))))))) (y1.2.2.2.2.2.2.1, (y1.2.2.2.2.2.2.2.1, (y1.2.2.2.2.2.2.2.2.1, (y1.2.2.2.2.2.2.2.2.2.1, (y1.2.2.2.2.2.2.2.2.2.2.2.2.2.2.1, (y1.2.2.2.2.2.2.2.2.2.2.2.2.2.2.2, (y1.2.2.2.2.2.2.2.2.2.2.1, y1.2.2.2.2.2.2.2.2.2.2.2.1))))))) (fun y11 =>
                      bif (y10 == y11) then
                        impl_Beside_k (y1.1, (y1.2.1, (y1.2.2.1, (y1.2.2.2.1, (y1.2.2.2.2.2.2.2.2.2.2.2.2.1, (y1.2.2.2.2.2.2.2.2.2.2.2.2.2.1, (y1.2.2.2.2.1, y1.2.2.2.2.2.1))))))) (y1.2.2.2.2.2.2.1, (y1.2.2.2.2.2.2.2.1, (y1.2.2.2.2.2.2.2.2.1, (y1.2.2.2.2.2.2.2.2.2.1, (y1.2.2.2.2.2.2.2.2.2.2.2.2.2.2.1, (y1.2.2.2.2.2.2.2.2.2.2.2.2.2.2.2, (y1.2.2.2.2.2.2.2.2.2.2.1, y1.2.2.2.2.2.2.2.2.2.2.2.1))))))) (fun y12 =>
                          spec_Beside_k (y1.1, (y1.2.1, (y1.2.2.1, (y1.2.2.2.1, (y1.2.2.2.2.2.2.2.2.2.2.2.2.1, (y1.2.2.2.2.2.2.2.2.2.2.2.2.2.1, (y1.2.2.2.2.1, y1.2.2.2.2.2.1))))))) (y1.2.2.2.2.2.2.1, (y1.2.2.2.2.2.2.2.1, (y1.2.2.2.2.2.2.2.2.1, (y1.2.2.2.2.2.2.2.2.2.1, (y1.2.2.2.2.2.2.2.2.2.2.2.2.2.2.1, (y1.2.2.2.2.2.2.2.2.2.2.2.2.2.2.2, (y1.2.2.2.2.2.2.2.2.2.2.1, y1.2.2.2.2.2.2.2.2.2.2.2.1))))))) (fun y13 =>
                            bif (y12 == y13) then
                              impl_Ahead_k (u4, (u5, (u6, (u7, (u16, (u17, (u8, u9))))))) (u4, (u5, (u6, (u7, (u16, (u17, (u8, u9))))))) (fun y14 =>
                                k (!y14))
                            else
                              k false))
                      else
                        k false))
                else
                  k false)
          else
            k false)
      else
        k false)

theorem laws_FnEdges_wz5000006 {u0 : (List Int)} {u1 : Bool} {u2 : Bool} {u3 : Bool} {u4 : Int} {u5 : Int} {u6 : Int} {u7 : Int} {u8 : Bool} {u9 : ByteArray} {u10 : Int} {u11 : Int} {u12 : Int} {u13 : Int} {u14 : Bool} {u15 : ByteArray} {u16 : (List dRange)} {u17 : (List dWrite)} {u18 : (List dRange)} {u19 : (List dWrite)}  {K : ((List Int) × Bool × Bool × Bool × Int × Int × Int × Int × Bool × ByteArray × Int × Int × Int × Int × Bool × ByteArray × (List dRange) × (List dWrite) × (List dRange) × (List dWrite)) → Option Res} : laws_FnEdges_j5000006 (u0, u1, u2, u3, u4, u5, u6, u7, u8, u9, u10, u11, u12, u13, u14, u15, u16, u17, u18, u19) K = laws_FnEdges_wj5000006 u0 u1 u2 u3 u4 u5 u6 u7 u8 u9 u10 u11 u12 u13 u14 u15 u16 u17 u18 u19 (fun z => K (u0, z, u2, u3, u4, u5, u6, u7, u8, u9, u10, u11, u12, u13, u14, u15, u16, u17, u18, u19)) := by
  simp only [laws_FnEdges_j5000006, laws_FnEdges_wj5000006, Sum.elim_inl, Sum.elim_inr]

def laws_FnEdges_t (a0 : (List Int)) (k : Bool → Option Res) : Option Res :=
  laws_big_k a0 (fun y23 =>
    bif y23 then
      k true
    else
      spec_DrawTxns_k a0 (fun y24 =>
        impl_Beside_k (y24.1, (y24.2.1, (y24.2.2.1, (y24.2.2.2.1, (y24.2.2.2.2.2.2.2.2.2.2.2.2.1, (y24.2.2.2.2.2.2.2.2.2.2.2.2.2.1, (y24.2.2.2.2.1, y24.2.2.2.2.2.1))))))) (y24.2.2.2.2.2.2.1, (y24.2.2.2.2.2.2.2.1, (y24.2.2.2.2.2.2.2.2.1, (y24.2.2.2.2.2.2.2.2.2.1, (y24.2.2.2.2.2.2.2.2.2.2.2.2.2.2.1, (y24.2.2.2.2.2.2.2.2.2.2.2.2.2.2.2, (y24.2.2.2.2.2.2.2.2.2.2.1, y24.2.2.2.2.2.2.2.2.2.2.2.1))))))) (fun y25 =>
          bif (y24.2.1 == (3 : Int)) then
            bif (decide (y24.2.2.2.1 ≤ y24.2.2.2.2.2.2.2.2.1)) then
              laws_FnEdges_wj5000006 a0 false y25 true y24.1 y24.2.1 y24.2.2.1 y24.2.2.2.1 y24.2.2.2.2.1 y24.2.2.2.2.2.1 y24.2.2.2.2.2.2.1 y24.2.2.2.2.2.2.2.1 y24.2.2.2.2.2.2.2.2.1 y24.2.2.2.2.2.2.2.2.2.1 y24.2.2.2.2.2.2.2.2.2.2.1 y24.2.2.2.2.2.2.2.2.2.2.2.1 y24.2.2.2.2.2.2.2.2.2.2.2.2.1 y24.2.2.2.2.2.2.2.2.2.2.2.2.2.1 y24.2.2.2.2.2.2.2.2.2.2.2.2.2.2.1 y24.2.2.2.2.2.2.2.2.2.2.2.2.2.2.2 (fun z26 =>
                k z26)
            else
              bif (y24.2.2.2.2.2.2.2.1 == (3 : Int)) then
                laws_FnEdges_wj5000006 a0 false y25 (decide (y24.2.2.2.2.2.2.2.2.2.1 ≤ y24.2.2.1)) y24.1 y24.2.1 y24.2.2.1 y24.2.2.2.1 y24.2.2.2.2.1 y24.2.2.2.2.2.1 y24.2.2.2.2.2.2.1 y24.2.2.2.2.2.2.2.1 y24.2.2.2.2.2.2.2.2.1 y24.2.2.2.2.2.2.2.2.2.1 y24.2.2.2.2.2.2.2.2.2.2.1 y24.2.2.2.2.2.2.2.2.2.2.2.1 y24.2.2.2.2.2.2.2.2.2.2.2.2.1 y24.2.2.2.2.2.2.2.2.2.2.2.2.2.1 y24.2.2.2.2.2.2.2.2.2.2.2.2.2.2.1 y24.2.2.2.2.2.2.2.2.2.2.2.2.2.2.2 (fun z27 =>
                  k z27)
              else
                laws_FnEdges_wj5000006 a0 false y25 false y24.1 y24.2.1 y24.2.2.1 y24.2.2.2.1 y24.2.2.2.2.1 y24.2.2.2.2.2.1 y24.2.2.2.2.2.2.1 y24.2.2.2.2.2.2.2.1 y24.2.2.2.2.2.2.2.2.1 y24.2.2.2.2.2.2.2.2.2.1 y24.2.2.2.2.2.2.2.2.2.2.1 y24.2.2.2.2.2.2.2.2.2.2.2.1 y24.2.2.2.2.2.2.2.2.2.2.2.2.1 y24.2.2.2.2.2.2.2.2.2.2.2.2.2.1 y24.2.2.2.2.2.2.2.2.2.2.2.2.2.2.1 y24.2.2.2.2.2.2.2.2.2.2.2.2.2.2.2 (fun z28 =>
                  k z28)
          else
            bif (y24.2.2.2.2.2.2.2.1 == (3 : Int)) then
              laws_FnEdges_wj5000006 a0 false y25 (decide (y24.2.2.2.2.2.2.2.2.2.1 ≤ y24.2.2.1)) y24.1 y24.2.1 y24.2.2.1 y24.2.2.2.1 y24.2.2.2.2.1 y24.2.2.2.2.2.1 y24.2.2.2.2.2.2.1 y24.2.2.2.2.2.2.2.1 y24.2.2.2.2.2.2.2.2.1 y24.2.2.2.2.2.2.2.2.2.1 y24.2.2.2.2.2.2.2.2.2.2.1 y24.2.2.2.2.2.2.2.2.2.2.2.1 y24.2.2.2.2.2.2.2.2.2.2.2.2.1 y24.2.2.2.2.2.2.2.2.2.2.2.2.2.1 y24.2.2.2.2.2.2.2.2.2.2.2.2.2.2.1 y24.2.2.2.2.2.2.2.2.2.2.2.2.2.2.2 (fun z29 =>
                k z29)
            else
              laws_FnEdges_wj5000006 a0 false y25 false y24.1 y24.2.1 y24.2.2.1 y24.2.2.2.1 y24.2.2.2.2.1 y24.2.2.2.2.2.1 y24.2.2.2.2.2.2.1 y24.2.2.2.2.2.2.2.1 y24.2.2.2.2.2.2.2.2.1 y24.2.2.2.2.2.2.2.2.2.1 y24.2.2.2.2.2.2.2.2.2.2.1 y24.2.2.2.2.2.2.2.2.2.2.2.1 y24.2.2.2.2.2.2.2.2.2.2.2.2.1 y24.2.2.2.2.2.2.2.2.2.2.2.2.2.1 y24.2.2.2.2.2.2.2.2.2.2.2.2.2.2.1 y24.2.2.2.2.2.2.2.2.2.2.2.2.2.2.2 (fun z30 =>
                k z30))))

theorem laws_FnEdges_r {a0 : (List Int)}  {k : Bool → Option Res} : laws_FnEdges_k a0 k = laws_FnEdges_t a0 k := by
  rw [laws_FnEdges_e]
  simp only [laws_FnEdges_d, laws_FnEdges_t, laws_FnEdges_wz5000006, Sum.elim_inl, Sum.elim_inr]

end

end Go.VE
