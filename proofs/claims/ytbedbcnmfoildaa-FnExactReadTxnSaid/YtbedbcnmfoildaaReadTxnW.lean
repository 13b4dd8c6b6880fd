/- Loops told as recursions over what is left; written by gen.py. -/

import Derived.Test.YtbedbcnmfoildaaReadTxnN

import Derived.Test.YtbedbcnmfoildaaP1

namespace Go.VE

noncomputable section

set_option linter.unusedVariables false
set_option linter.unusedSimpArgs false
set_option maxRecDepth 100000


def spec_l01Var_t (a0 : Int) (k : ByteArray → Option Res) : Option Res :=
  loopK spec_l01Var_b0 Fuel (a0, ([] : List Int)) (fun z12 =>
    if z12.2.length + [(IntKind.wrap .u8 z12.1)].length ≤ VE.maxLen then
      k (bytesOf (z12.2 ++ [(IntKind.wrap .u8 z12.1)]))
    else none)

theorem spec_l01Var_r {a0 : Int}  {k : ByteArray → Option Res} : spec_l01Var_k a0 k = spec_l01Var_t a0 k := by
  rw [spec_l01Var_e]
  simp only [spec_l01Var_d, spec_l01Var_t, Sum.elim_inl, Sum.elim_inr]

def spec_ReadVar_wj6000001 (u0 : ByteArray) (u1 : Int) (u2 : Int) (u3 : Int) (u4 : Bool) (u5 : Int) (u6 : Int) (u7 : Int) (k : ((Int × Int × Bool × Int × Int) ⊕ (Int × Int × Int)) → Option Res) : Option Res :=
    if 0 ≤ u7 ∧ u7 < (u0.size : Int) then
      if 0 ≤ u7 ∧ u7 < (u0.size : Int) then
        bif (decide ((bt u0 u7) < (128 : Int))) then
          bif (decide ((IntKind.wrap .i64 (u5 + (IntKind.wrap .i64 (((IntKind.wrap .i64 (bt u0 u7)).tmod (128 : Int)) * u6)))) > (1000000000 : Int))) then
            k (.inl ((0 : Int), (0 : Int), false, (IntKind.wrap .i64 (u5 + (IntKind.wrap .i64 (((IntKind.wrap .i64 (bt u0 u7)).tmod (128 : Int)) * u6)))), (IntKind.wrap .i64 (u6 * (128 : Int)))))
          else
            if 0 ≤ u1 ∧ u1 ≤ (IntKind.wrap .i64 (u7 + (1 : Int))) ∧ (IntKind.wrap .i64 (u7 + (1 : Int))) ≤ (u0.size : Int) then
              spec_l01Var_k (IntKind.wrap .i64 (u5 + (IntKind.wrap .i64 (((IntKind.wrap .i64 (bt u0 u7)).tmod (128 : Int)) * u6)))) (fun y1 =>
                bif (!(strEq y1 (u0.extract u1.toNat (IntKind.wrap .i64 (u7 + (1 : Int))).toNat))) then
                  k (.inl ((0 : Int), (0 : Int), false, (IntKind.wrap .i64 (u5 + (IntKind.wrap .i64 (((IntKind.wrap .i64 (bt u0 u7)).tmod (128 : Int)) * u6)))), (IntKind.wrap .i64 (u6 * (128 : Int)))))
                else
                  k (.inl ((IntKind.wrap .i64 (u5 + (IntKind.wrap .i64 (((IntKind.wrap .i64 (bt u0 u7)).tmod (128 : Int)) * u6)))), (IntKind.wrap .i64 (u7 + (1 : Int))), true, (IntKind.wrap .i64 (u5 + (IntKind.wrap .i64 (((IntKind.wrap .i64 (bt u0 u7)).tmod (128 : Int)) * u6)))), (IntKind.wrap .i64 (u6 * (128 : Int))))))
            else none
        else
          k (.inr ((IntKind.wrap .i64 (u5 + (IntKind.wrap .i64 (((IntKind.wrap .i64 (bt u0 u7)).tmod (128 : Int)) * u6)))), (IntKind.wrap .i64 (u6 * (128 : Int))), (IntKind.wrap .i64 (u7 + (1 : Int)))))
      else none
    else none

theorem spec_ReadVar_wz6000001 {u0 : ByteArray} {u1 : Int} {u2 : Int} {u3 : Int} {u4 : Bool} {u5 : Int} {u6 : Int} {u7 : Int}  {K : ((ByteArray × Int × Int × Int × Bool × Int × Int × Int) ⊕ (ByteArray × Int × Int × Int × Bool × Int × Int × Int)) → Option Res} : spec_ReadVar_j6000001 (u0, u1, u2, u3, u4, u5, u6, u7) K = spec_ReadVar_wj6000001 u0 u1 u2 u3 u4 u5 u6 u7 (Sum.elim (fun z => K (.inl (u0, u1, z.1, z.2.1, z.2.2.1, z.2.2.2.1, z.2.2.2.2, u7))) (fun z => K (.inr (u0, u1, u2, u3, u4, z.1, z.2.1, z.2.2)))) := by
  simp only [spec_ReadVar_j6000001, spec_ReadVar_wj6000001, Sum.elim_inl, Sum.elim_inr]

def spec_ReadVar_t (a0 : ByteArray) (a1 : Int) (k : (Int × Int × Bool) → Option Res) : Option Res :=
  spec_l01In_k a1 (0 : Int) (a0.size : Int) (fun y12 =>
    bif (!y12) then
      k ((0 : Int), (0 : Int), false)
    else
      loopK spec_ReadVar_b0 Fuel (a0, a1, (0 : Int), (0 : Int), false, (0 : Int), (1 : Int), a1) (Sum.elim (fun _ =>
        k ((0 : Int), (0 : Int), false)) (fun z14 =>
        k (z14.2.2.1, z14.2.2.2.1, z14.2.2.2.2.1))))

theorem spec_ReadVar_r {a0 : ByteArray} {a1 : Int}  {k : (Int × Int × Bool) → Option Res} : spec_ReadVar_k a0 a1 k = spec_ReadVar_t a0 a1 k := by
  rw [spec_ReadVar_e]
  simp only [spec_ReadVar_d, spec_ReadVar_t, Sum.elim_inl, Sum.elim_inr]

def spec_l07ReadBit_wj5000004 (u0 : Bool) (u1 : ByteArray) (u2 : Int) (u3 : Bool) (k : (Bool × Int) → Option Res) : Option Res :=
    if 0 ≤ (IntKind.wrap .i64 ((IntKind.wrap .i64 (u2 + (1 : Int))) - (1 : Int))) ∧ (IntKind.wrap .i64 ((IntKind.wrap .i64 (u2 + (1 : Int))) - (1 : Int))) < (u1.size : Int) then
      k (((bt u1 (IntKind.wrap .i64 ((IntKind.wrap .i64 (u2 + (1 : Int))) - (1 : Int)))) == (1 : Int)), (IntKind.wrap .i64 (u2 + (1 : Int))))
    else none

theorem spec_l07ReadBit_wz5000004 {u0 : Bool} {u1 : ByteArray} {u2 : Int} {u3 : Bool}  {K : (Bool × ByteArray × Int × Bool) → Option Res} : spec_l07ReadBit_j5000004 (u0, u1, u2, u3) K = spec_l07ReadBit_wj5000004 u0 u1 u2 u3 (fun z => K (z.1, u1, z.2, u3)) := by
  simp only [spec_l07ReadBit_j5000004, spec_l07ReadBit_wj5000004, Sum.elim_inl, Sum.elim_inr]

def spec_l07ReadBit_t (a0 : ByteArray) (a1 : Int) (a2 : Bool) (k : (Bool × ByteArray × Int × Bool) → Option Res) : Option Res :=
  bif a2 then
    k (false, a0, a1, true)
  else
    bif (decide (a1 ≥ (a0.size : Int))) then
      k (false, a0, a1, true)
    else
      if 0 ≤ a1 ∧ a1 < (a0.size : Int) then
        bif (decide ((bt a0 a1) > (1 : Int))) then
          k (false, a0, a1, true)
        else
          spec_l07ReadBit_wj5000004 false a0 a1 a2 (fun z12 =>
            k (z12.1, a0, z12.2, a2))
      else none

theorem spec_l07ReadBit_r {a0 : ByteArray} {a1 : Int} {a2 : Bool}  {k : (Bool × ByteArray × Int × Bool) → Option Res} : spec_l07ReadBit_k a0 a1 a2 k = spec_l07ReadBit_t a0 a1 a2 k := by
  rw [spec_l07ReadBit_e]
  simp only [spec_l07ReadBit_d, spec_l07ReadBit_t, spec_l07ReadBit_wz5000004, Sum.elim_inl, Sum.elim_inr]

def spec_KeyOk_w0 (u0 : ByteArray) (u1 : Bool) : List Int → Nat → (((Bool × Int) ⊕ Int) → Option Res) → Option Res
  | [], i, k =>
    k (.inr (i : Int))
  | y :: l, i, k =>
    bif (decide (y < (97 : Int))) then
      k (.inl (false, (i : Int)))
    else
      bif (decide (y > (122 : Int))) then
        k (.inl (false, (i : Int)))
      else
        spec_KeyOk_w0 u0 u1 l (i + 1) k

theorem spec_KeyOk_lw0 {u0 : ByteArray} {u1 : Bool} (h0 : u0.size < 9223372036854775807) {K : ((ByteArray × Bool × Int) ⊕ (ByteArray × Bool × Int)) → Option Res} : ∀ (l : List Int) (i : Nat)  (n : Nat), (intsOf u0).drop i = l → l.length < n → loopK spec_KeyOk_b0 n (u0, u1, (i : Int)) K = spec_KeyOk_w0 u0 u1 l  i (Sum.elim (fun z => K (.inl (u0, z.1, z.2))) (fun z => K (.inr (u0, u1, z)))) := by
  intro l
  induction l with
  | nil =>
    intro i  n hd hn
    have hge := lws_nil hd
    cases n with
    | zero => exact absurd hn (Nat.not_lt_zero _)
    | succ n => simp only [loopK, spec_KeyOk_b0, spec_KeyOk_w0, hge, decide_false, cond_false, Sum.elim_inr, Sum.elim_inl]
  | cons y l ih =>
    intro i  n hd hn
    obtain ⟨hlt, hz, hd2, hw, hnn⟩ := lws_cons hd h0
    have hy := lws_get hd
    cases n with
    | zero => exact absurd hn (Nat.not_lt_zero _)
    | succ n =>
      have ih2 := ih (i + 1)  n hd2 (Nat.lt_of_succ_lt_succ hn)
      simp only [loopK, spec_KeyOk_b0, spec_KeyOk_w0, hlt, hz, decide_true, cond_true, and_self, if_true, hy, hw, hnn, Sum.elim_inl, Sum.elim_inr, ih2]

theorem spec_KeyOk_lz0 {u0 : ByteArray} {u1 : Bool} (h0 : u0.size < 9223372036854775807) {K : ((ByteArray × Bool × Int) ⊕ (ByteArray × Bool × Int)) → Option Res}  : loopK spec_KeyOk_b0 Fuel (u0, u1, (0 : Int)) K = spec_KeyOk_w0 u0 u1 (intsOf u0)  0 (Sum.elim (fun z => K (.inl (u0, z.1, z.2))) (fun z => K (.inr (u0, u1, z)))) :=
  spec_KeyOk_lw0 h0 (intsOf u0) 0  Fuel rfl (lws_fuel h0)

def spec_KeyOk_t (a0 : ByteArray) (k : Bool → Option Res) : Option Res :=
  spec_KeyOk_w0 a0 false (intsOf a0)  0 (Sum.elim (fun z12 =>
    k z12.1) (fun _ =>
    spec_l01In_k (a0.size : Int) (1 : Int) (3 : Int) (fun y14 =>
      k y14)))

theorem spec_KeyOk_r {a0 : ByteArray} (h0 : a0.size < 9223372036854775807) {k : Bool → Option Res} : spec_KeyOk_k a0 k = spec_KeyOk_t a0 k := by
  rw [spec_KeyOk_e]
  simp only [spec_KeyOk_d, spec_KeyOk_t, (spec_KeyOk_lz0 h0), Sum.elim_inl, Sum.elim_inr]

def spec_WritesOk_w0 (u0 : (List dWrite)) (u1 : Bool) : List dWrite → Nat → (((Bool × Int) ⊕ Int) → Option Res) → Option Res
  | [], i, k =>
    k (.inr (i : Int))
  | y :: l, i, k =>
    spec_WriteOk_k y (fun y1 =>
      bif (!y1) then
        k (.inl (false, (i : Int)))
      else
        bif (decide ((i : Int) > (0 : Int))) then
          if 0 ≤ (IntKind.wrap .i64 ((i : Int) - (1 : Int))) ∧ (IntKind.wrap .i64 ((i : Int) - (1 : Int))) < (u0.length : Int) then
            bif (!(strLess ((rd (Ty.zero tWrite) u0 (IntKind.wrap .i64 ((i : Int) - (1 : Int)))).1) (y.1))) then
              k (.inl (false, (i : Int)))
            else
              spec_WritesOk_w0 u0 u1 l (i + 1) k
          else none
        else
          spec_WritesOk_w0 u0 u1 l (i + 1) k)

theorem spec_WritesOk_lw0 {u0 : (List dWrite)} {u1 : Bool} (h0 : u0.length < 9223372036854775807) {K : (((List dWrite) × Bool × Int) ⊕ ((List dWrite) × Bool × Int)) → Option Res} : ∀ (l : List dWrite) (i : Nat)  (n : Nat), u0.drop i = l → l.length < n → loopK spec_WritesOk_b0 n (u0, u1, (i : Int)) K = spec_WritesOk_w0 u0 u1 l  i (Sum.elim (fun z => K (.inl (u0, z.1, z.2))) (fun z => K (.inr (u0, u1, z)))) := by
  intro l
  induction l with
  | nil =>
    intro i  n hd hn
    have hge := lwl_nil hd
    cases n with
    | zero => exact absurd hn (Nat.not_lt_zero _)
    | succ n => simp only [loopK, spec_WritesOk_b0, spec_WritesOk_w0, hge, decide_false, cond_false, Sum.elim_inr, Sum.elim_inl]
  | cons y l ih =>
    intro i  n hd hn
    obtain ⟨hlt, hz, hd2, hw, hnn⟩ := lwl_cons hd h0
    have hy := lwl_get hd
    cases n with
    | zero => exact absurd hn (Nat.not_lt_zero _)
    | succ n =>
      have ih2 := ih (i + 1)  n hd2 (Nat.lt_of_succ_lt_succ hn)
      simp only [loopK, spec_WritesOk_b0, spec_WritesOk_w0, hlt, hz, decide_true, cond_true, and_self, if_true, hy, hw, hnn, Sum.elim_inl, Sum.elim_inr, ih2]

theorem spec_WritesOk_lz0 {u0 : (List dWrite)} {u1 : Bool} (h0 : u0.length < 9223372036854775807) {K : (((List dWrite) × Bool × Int) ⊕ ((List dWrite) × Bool × Int)) → Option Res}  : loopK spec_WritesOk_b0 Fuel (u0, u1, (0 : Int)) K = spec_WritesOk_w0 u0 u1 u0  0 (Sum.elim (fun z => K (.inl (u0, z.1, z.2))) (fun z => K (.inr (u0, u1, z)))) :=
  spec_WritesOk_lw0 h0 u0 0  Fuel rfl (lwl_fuel h0)

def spec_WritesOk_t (a0 : (List dWrite)) (k : Bool → Option Res) : Option Res :=
  spec_WritesOk_w0 a0 false a0  0 (Sum.elim (fun z12 =>
    k z12.1) (fun _ =>
    k (decide ((a0.length : Int) ≤ (8 : Int)))))

theorem spec_WritesOk_r {a0 : (List dWrite)} (h0 : a0.length < 9223372036854775807) {k : Bool → Option Res} : spec_WritesOk_k a0 k = spec_WritesOk_t a0 k := by
  rw [spec_WritesOk_e]
  simp only [spec_WritesOk_d, spec_WritesOk_t, (spec_WritesOk_lz0 h0), Sum.elim_inl, Sum.elim_inr]

def spec_TxnOk_wj5000012 (u0 : Bool) (u1 : Int) (u2 : Int) (u3 : Int) (u4 : Int) (u5 : (List dRange)) (u6 : (List dWrite)) (u7 : Bool) (u8 : ByteArray) (k : Bool → Option Res) : Option Res :=
    bif (u2 != (1 : Int)) then
      k true
    else
      k (!u7)

theorem spec_TxnOk_wz5000012 {u0 : Bool} {u1 : Int} {u2 : Int} {u3 : Int} {u4 : Int} {u5 : (List dRange)} {u6 : (List dWrite)} {u7 : Bool} {u8 : ByteArray}  {K : (Bool × Int × Int × Int × Int × (List dRange) × (List dWrite) × Bool × ByteArray) → Option Res} : spec_TxnOk_j5000012 (u0, u1, u2, u3, u4, u5, u6, u7, u8) K = spec_TxnOk_wj5000012 u0 u1 u2 u3 u4 u5 u6 u7 u8 (fun z => K (z, u1, u2, u3, u4, u5, u6, u7, u8)) := by
  simp only [spec_TxnOk_j5000012, spec_TxnOk_wj5000012, Sum.elim_inl, Sum.elim_inr]

def spec_TxnOk_wj5000010 (u0 : Bool) (u1 : Int) (u2 : Int) (u3 : Int) (u4 : Int) (u5 : (List dRange)) (u6 : (List dWrite)) (u7 : Bool) (u8 : ByteArray) (k : Bool → Option Res) : Option Res :=
    bif (u2 == (2 : Int)) then
      spec_KeyOk_k u8 (fun y1 =>
        bif (!y1) then
          k false
        else
          bif (u2 != (2 : Int)) then
            bif (!(strEq u8 (⟨#[]⟩ : ByteArray))) then
              k false
            else
              spec_TxnOk_wj5000012 u0 u1 u2 u3 u4 u5 u6 u7 u8 (fun z2 =>
                k z2)
          else
            spec_TxnOk_wj5000012 u0 u1 u2 u3 u4 u5 u6 u7 u8 (fun z3 =>
              k z3))
    else
      bif (u2 != (2 : Int)) then
        bif (!(strEq u8 (⟨#[]⟩ : ByteArray))) then
          k false
        else
          spec_TxnOk_wj5000012 u0 u1 u2 u3 u4 u5 u6 u7 u8 (fun z4 =>
            k z4)
      else
        spec_TxnOk_wj5000012 u0 u1 u2 u3 u4 u5 u6 u7 u8 (fun z5 =>
          k z5)

theorem spec_TxnOk_wz5000010 {u0 : Bool} {u1 : Int} {u2 : Int} {u3 : Int} {u4 : Int} {u5 : (List dRange)} {u6 : (List dWrite)} {u7 : Bool} {u8 : ByteArray}  {K : (Bool × Int × Int × Int × Int × (List dRange) × (List dWrite) × Bool × ByteArray) → Option Res} : spec_TxnOk_j5000010 (u0, u1, u2, u3, u4, u5, u6, u7, u8) K = spec_TxnOk_wj5000010 u0 u1 u2 u3 u4 u5 u6 u7 u8 (fun z => K (z, u1, u2, u3, u4, u5, u6, u7, u8)) := by
  simp only [spec_TxnOk_j5000010, spec_TxnOk_wj5000010, spec_TxnOk_wz5000012, Sum.elim_inl, Sum.elim_inr]

def spec_TxnOk_w0 (u0 : Bool) (u2 : Int) (u3 : Int) (u4 : Int) (u5 : Int) (u6 : (List dRange)) (u7 : (List dWrite)) (u8 : Bool) (u9 : ByteArray) : List dRange → Nat → (((Bool × Int) ⊕ Int) → Option Res) → Option Res
  | [], i, k =>
    k (.inr (i : Int))
  | y :: l, i, k =>
    spec_RangeOk_k y (fun y1 =>
      bif (!y1) then
        k (.inl (false, (i : Int)))
      else
        spec_TxnOk_w0 u0 u2 u3 u4 u5 u6 u7 u8 u9 l (i + 1) k)

theorem spec_TxnOk_lw0 {u0 : Bool} {u2 : Int} {u3 : Int} {u4 : Int} {u5 : Int} {u6 : (List dRange)} {u7 : (List dWrite)} {u8 : Bool} {u9 : ByteArray} (h0 : u6.length < 9223372036854775807) {K : ((Bool × Int × Int × Int × Int × Int × (List dRange) × (List dWrite) × Bool × ByteArray) ⊕ (Bool × Int × Int × Int × Int × Int × (List dRange) × (List dWrite) × Bool × ByteArray)) → Option Res} : ∀ (l : List dRange) (i : Nat)  (n : Nat), u6.drop i = l → l.length < n → loopK spec_TxnOk_b0 n (u0, (i : Int), u2, u3, u4, u5, u6, u7, u8, u9) K = spec_TxnOk_w0 u0 u2 u3 u4 u5 u6 u7 u8 u9 l  i (Sum.elim (fun z => K (.inl (z.1, z.2, u2, u3, u4, u5, u6, u7, u8, u9))) (fun z => K (.inr (u0, z, u2, u3, u4, u5, u6, u7, u8, u9)))) := by
  intro l
  induction l with
  | nil =>
    intro i  n hd hn
    have hge := lwl_nil hd
    cases n with
    | zero => exact absurd hn (Nat.not_lt_zero _)
    | succ n => simp only [loopK, spec_TxnOk_b0, spec_TxnOk_w0, hge, decide_false, cond_false, Sum.elim_inr, Sum.elim_inl]
  | cons y l ih =>
    intro i  n hd hn
    obtain ⟨hlt, hz, hd2, hw, hnn⟩ := lwl_cons hd h0
    have hy := lwl_get hd
    cases n with
    | zero => exact absurd hn (Nat.not_lt_zero _)
    | succ n =>
      have ih2 := ih (i + 1)  n hd2 (Nat.lt_of_succ_lt_succ hn)
      simp only [loopK, spec_TxnOk_b0, spec_TxnOk_w0, hlt, hz, decide_true, cond_true, and_self, if_true, hy, hw, hnn, Sum.elim_inl, Sum.elim_inr, ih2]

theorem spec_TxnOk_lz0 {u0 : Bool} {u2 : Int} {u3 : Int} {u4 : Int} {u5 : Int} {u6 : (List dRange)} {u7 : (List dWrite)} {u8 : Bool} {u9 : ByteArray} (h0 : u6.length < 9223372036854775807) {K : ((Bool × Int × Int × Int × Int × Int × (List dRange) × (List dWrite) × Bool × ByteArray) ⊕ (Bool × Int × Int × Int × Int × Int × (List dRange) × (List dWrite) × Bool × ByteArray)) → Option Res}  : loopK spec_TxnOk_b0 Fuel (u0, (0 : Int), u2, u3, u4, u5, u6, u7, u8, u9) K = spec_TxnOk_w0 u0 u2 u3 u4 u5 u6 u7 u8 u9 u6  0 (Sum.elim (fun z => K (.inl (z.1, z.2, u2, u3, u4, u5, u6, u7, u8, u9))) (fun z => K (.inr (u0, z, u2, u3, u4, u5, u6, u7, u8, u9)))) :=
  spec_TxnOk_lw0 h0 u6 0  Fuel rfl (lwl_fuel h0)

def spec_TxnOk_wj5000003 (u0 : Bool) (u1 : Int) (u2 : Int) (u3 : Int) (u4 : Int) (u5 : (List dRange)) (u6 : (List dWrite)) (u7 : Bool) (u8 : ByteArray) (k : Bool → Option Res) : Option Res :=
    spec_TxnOk_w0 u0 u1 u2 u3 u4 u5 u6 u7 u8 u5  0 (Sum.elim (fun z1 =>
      k z1.1) (fun _ =>
      bif (u2 == (3 : Int)) then
        spec_l01In_k u4 (IntKind.wrap .i64 (u3 + (1 : Int))) (9999 : Int) (fun y3 =>
          bif (!y3) then
            k false
          else
            bif (u2 != (3 : Int)) then
              bif (u4 != (0 : Int)) then
                k false
              else
                spec_TxnOk_wj5000010 u0 u1 u2 u3 u4 u5 u6 u7 u8 (fun z4 =>
                  k z4)
            else
              spec_TxnOk_wj5000010 u0 u1 u2 u3 u4 u5 u6 u7 u8 (fun z5 =>
                k z5))
      else
        bif (u2 != (3 : Int)) then
          bif (u4 != (0 : Int)) then
            k false
          else
            spec_TxnOk_wj5000010 u0 u1 u2 u3 u4 u5 u6 u7 u8 (fun z6 =>
              k z6)
        else
          spec_TxnOk_wj5000010 u0 u1 u2 u3 u4 u5 u6 u7 u8 (fun z7 =>
            k z7)))

theorem spec_TxnOk_wz5000003 {u0 : Bool} {u1 : Int} {u2 : Int} {u3 : Int} {u4 : Int} {u5 : (List dRange)} {u6 : (List dWrite)} {u7 : Bool} {u8 : ByteArray} (h0 : u5.length < 9223372036854775807) {K : (Bool × Int × Int × Int × Int × (List dRange) × (List dWrite) × Bool × ByteArray) → Option Res} : spec_TxnOk_j5000003 (u0, u1, u2, u3, u4, u5, u6, u7, u8) K = spec_TxnOk_wj5000003 u0 u1 u2 u3 u4 u5 u6 u7 u8 (fun z => K (z, u1, u2, u3, u4, u5, u6, u7, u8)) := by
  simp only [spec_TxnOk_j5000003, spec_TxnOk_wj5000003, spec_TxnOk_wz5000010, (spec_TxnOk_lz0 h0), Sum.elim_inl, Sum.elim_inr]

def spec_TxnOk_t (a0 : dTxn) (k : Bool → Option Res) : Option Res :=
  spec_l01In_k a0.1 (1 : Int) (9999 : Int) (fun y12 =>
    bif (!y12) then
      k false
    else
      spec_l01In_k a0.2.1 (1 : Int) (3 : Int) (fun y13 =>
        bif (!y13) then
          k false
        else
          spec_l01In_k a0.2.2.1 (0 : Int) (9999 : Int) (fun y14 =>
            bif (!y14) then
              k false
            else
              bif (decide ((a0.2.2.2.2.1.length : Int) > (8 : Int))) then
                k false
              else
                spec_WritesOk_k a0.2.2.2.2.2.1 (fun y15 =>
                  bif (!y15) then
                    k false
                  else
                    spec_TxnOk_wj5000003 false a0.1 a0.2.1 a0.2.2.1 a0.2.2.2.1 a0.2.2.2.2.1 a0.2.2.2.2.2.1 a0.2.2.2.2.2.2.1 a0.2.2.2.2.2.2.2 (fun z16 =>
                      k z16)))))

theorem spec_TxnOk_r {a0 : dTxn} (h0 : a0.2.2.2.2.1.length < 9223372036854775807) {k : Bool → Option Res} : spec_TxnOk_k a0 k = spec_TxnOk_t a0 k := by
  rw [spec_TxnOk_e]
  simp only [spec_TxnOk_d, spec_TxnOk_t, (spec_TxnOk_wz5000003 h0), Sum.elim_inl, Sum.elim_inr]

def spec_ReadTxn_wj5000025 (u0 : Int) (u1 : Int) (u2 : Int) (u3 : Int) (u4 : Bool) (u5 : ByteArray) (u6 : ByteArray) (u7 : Int) (u8 : Bool) (u9 : Int) (u10 : Int) (u11 : Int) (u12 : Int) (u13 : Bool) (u14 : ByteArray) (u15 : (List dRange)) (u16 : (List dWrite)) (u17 : (List dRange)) (u18 : (List dWrite)) (k : Bool → Option Res) : Option Res :=
    k true

theorem spec_ReadTxn_wz5000025 {u0 : Int} {u1 : Int} {u2 : Int} {u3 : Int} {u4 : Bool} {u5 : ByteArray} {u6 : ByteArray} {u7 : Int} {u8 : Bool} {u9 : Int} {u10 : Int} {u11 : Int} {u12 : Int} {u13 : Bool} {u14 : ByteArray} {u15 : (List dRange)} {u16 : (List dWrite)} {u17 : (List dRange)} {u18 : (List dWrite)}  {K : (Int × Bool × Int × Int × Int × Int × Bool × ByteArray × ByteArray × Int × Bool × Int × Int × Int × Int × Bool × ByteArray × (List dRange) × (List dWrite)) → Option Res} : spec_ReadTxn_j5000025 (u0, u1, u2, u3, u4, u5, u6, u7, u8, u9, u10, u11, u12, u13, u14, u15, u16, u17, u18) K = spec_ReadTxn_wj5000025 u0 u1 u2 u3 u4 u5 u6 u7 u8 u9 u10 u11 u12 u13 u14 u15 u16 u17 u18 (fun z => K (u7, z, u9, u10, u11, u12, u13, u14, u6, u7, u8, u9, u10, u11, u12, u13, u14, u17, u18)) := by
  simp only [spec_ReadTxn_j5000025, spec_ReadTxn_wj5000025, Sum.elim_inl, Sum.elim_inr]

def spec_ReadTxn_wj6000001 (u0 : Int) (u1 : Int) (u2 : Int) (u3 : Int) (u4 : Int) (u5 : Int) (u6 : Bool) (u7 : ByteArray) (u8 : ByteArray) (u9 : Int) (u10 : Bool) (u11 : Int) (u12 : Int) (u13 : Int) (u14 : Int) (u15 : Bool) (u16 : ByteArray) (u17 : (List dRange)) (k : (Int × ByteArray × Int × Bool × (List dRange)) → Option Res) : Option Res :=
    spec_l07ReadShort_k u8 u9 u10 (fun y1 =>
      spec_l07ReadShort_k y1.2.1 y1.2.2.1 y1.2.2.2 (fun y2 =>
        if u17.length + [(y1.1, y2.1)].length ≤ VE.maxLen then
          k ((IntKind.wrap .i64 (u1 + (1 : Int))), y2.2.1, y2.2.2.1, y2.2.2.2, (u17 ++ [(y1.1, y2.1)]))
        else none))

theorem spec_ReadTxn_wz6000001 {u0 : Int} {u1 : Int} {u2 : Int} {u3 : Int} {u4 : Int} {u5 : Int} {u6 : Bool} {u7 : ByteArray} {u8 : ByteArray} {u9 : Int} {u10 : Bool} {u11 : Int} {u12 : Int} {u13 : Int} {u14 : Int} {u15 : Bool} {u16 : ByteArray} {u17 : (List dRange)}  {K : (Int × Int × Int × Int × Int × Int × Bool × ByteArray × ByteArray × Int × Bool × Int × Int × Int × Int × Bool × ByteArray × (List dRange)) → Option Res} : spec_ReadTxn_j6000001 (u0, u1, u2, u3, u4, u5, u6, u7, u8, u9, u10, u11, u12, u13, u14, u15, u16, u17) K = spec_ReadTxn_wj6000001 u0 u1 u2 u3 u4 u5 u6 u7 u8 u9 u10 u11 u12 u13 u14 u15 u16 u17 (fun z => K (u0, z.1, u2, u3, u4, u5, u6, u7, z.2.1, z.2.2.1, z.2.2.2.1, u11, u12, u13, u14, u15, u16, z.2.2.2.2)) := by
  simp only [spec_ReadTxn_j6000001, spec_ReadTxn_wj6000001, Sum.elim_inl, Sum.elim_inr]

def spec_ReadTxn_wj6000003 (u0 : Int) (u1 : Int) (u2 : Int) (u3 : Int) (u4 : Int) (u5 : Int) (u6 : Bool) (u7 : ByteArray) (u8 : ByteArray) (u9 : Int) (u10 : Bool) (u11 : Int) (u12 : Int) (u13 : Int) (u14 : Int) (u15 : Bool) (u16 : ByteArray) (u17 : (List dRange)) (u18 : (List dWrite)) (k : (Int × ByteArray × Int × Bool × (List dWrite)) → Option Res) : Option Res :=
    spec_l07ReadShort_k u8 u9 u10 (fun y1 =>
      spec_l07ReadShort_k y1.2.1 y1.2.2.1 y1.2.2.2 (fun y2 =>
        spec_l07ReadBit_k y2.2.1 y2.2.2.1 y2.2.2.2 (fun y3 =>
          if u18.length + [(y1.1, (y2.1, y3.1))].length ≤ VE.maxLen then
            k ((IntKind.wrap .i64 (u1 + (1 : Int))), y3.2.1, y3.2.2.1, y3.2.2.2, (u18 ++ [(y1.1, (y2.1, y3.1))]))
          else none)))

theorem spec_ReadTxn_wz6000003 {u0 : Int} {u1 : Int} {u2 : Int} {u3 : Int} {u4 : Int} {u5 : Int} {u6 : Bool} {u7 : ByteArray} {u8 : ByteArray} {u9 : Int} {u10 : Bool} {u11 : Int} {u12 : Int} {u13 : Int} {u14 : Int} {u15 : Bool} {u16 : ByteArray} {u17 : (List dRange)} {u18 : (List dWrite)}  {K : (Int × Int × Int × Int × Int × Int × Bool × ByteArray × ByteArray × Int × Bool × Int × Int × Int × Int × Bool × ByteArray × (List dRange) × (List dWrite)) → Option Res} : spec_ReadTxn_j6000003 (u0, u1, u2, u3, u4, u5, u6, u7, u8, u9, u10, u11, u12, u13, u14, u15, u16, u17, u18) K = spec_ReadTxn_wj6000003 u0 u1 u2 u3 u4 u5 u6 u7 u8 u9 u10 u11 u12 u13 u14 u15 u16 u17 u18 (fun z => K (u0, z.1, u2, u3, u4, u5, u6, u7, z.2.1, z.2.2.1, z.2.2.2.1, u11, u12, u13, u14, u15, u16, u17, z.2.2.2.2)) := by
  simp only [spec_ReadTxn_j6000003, spec_ReadTxn_wj6000003, Sum.elim_inl, Sum.elim_inr]

def spec_ReadTxn_t (a0 : ByteArray) (a1 : Int) (k : (Int × Int × Int × Int × Bool × ByteArray × Int × Bool × (List dRange) × (List dWrite)) → Option Res) : Option Res :=
  spec_l07Var_k a0 a1 false (fun y12 =>
    spec_l07Var_k y12.2.1 y12.2.2.1 y12.2.2.2 (fun y13 =>
      spec_l07Var_k y13.2.1 y13.2.2.1 y13.2.2.2 (fun y14 =>
        spec_l07Var_k y14.2.1 y14.2.2.1 y14.2.2.2 (fun y15 =>
          spec_l07Var_k y15.2.1 y15.2.2.1 y15.2.2.2 (fun y16 =>
            loopK spec_ReadTxn_b0 Fuel (y16.1, (0 : Int), (0 : Int), (0 : Int), (0 : Int), (0 : Int), false, (⟨#[]⟩ : ByteArray), y16.2.1, y16.2.2.1, y16.2.2.2, y12.1, y13.1, y14.1, y15.1, false, (⟨#[]⟩ : ByteArray), ([] : List dRange)) (fun z17 =>
              spec_l07Var_k z17.2.2.2.2.2.2.2.2.1 z17.2.2.2.2.2.2.2.2.2.1 z17.2.2.2.2.2.2.2.2.2.2.1 (fun y18 =>
                loopK spec_ReadTxn_b2 Fuel (y18.1, (0 : Int), z17.2.2.1, z17.2.2.2.1, z17.2.2.2.2.1, z17.2.2.2.2.2.1, z17.2.2.2.2.2.2.1, z17.2.2.2.2.2.2.2.1, y18.2.1, y18.2.2.1, y18.2.2.2, z17.2.2.2.2.2.2.2.2.2.2.2.1, z17.2.2.2.2.2.2.2.2.2.2.2.2.1, z17.2.2.2.2.2.2.2.2.2.2.2.2.2.1, z17.2.2.2.2.2.2.2.2.2.2.2.2.2.2.1, z17.2.2.2.2.2.2.2.2.2.2.2.2.2.2.2.1, z17.2.2.2.2.2.2.2.2.2.2.2.2.2.2.2.2.1, z17.2.2.2.2.2.2.2.2.2.2.2.2.2.2.2.2.2, ([] : List dWrite)) (fun z19 =>
                  spec_l07ReadBit_k z19.2.2.2.2.2.2.2.2.1 z19.2.2.2.2.2.2.2.2.2.1 z19.2.2.2.2.2.2.2.2.2.2.1 (fun y20 =>
                    spec_l07ReadShort_k y20.2.1 y20.2.2.1 y20.2.2.2 (fun y21 =>
                      bif y21.2.2.2 then
                        k ((0 : Int), (0 : Int), (0 : Int), (0 : Int), false, (⟨#[]⟩ : ByteArray), (0 : Int), false, ([] : List dRange), ([] : List dWrite))
                      else
                        spec_TxnOk_k (z19.2.2.2.2.2.2.2.2.2.2.2.1, (z19.2.2.2.2.2.2.2.2.2.2.2.2.1, (z19.2.2.2.2.2.2.2.2.2.2.2.2.2.1, (z19.2.2.2.2.2.2.2.2.2.2.2.2.2.2.1, (z19.2.2.2.2.2.2.2.2.2.2.2.2.2.2.2.2.2.1, (z19.2.2.2.2.2.2.2.2.2.2.2.2.2.2.2.2.2.2, (y20.1, y21.1))))))) (fun y22 =>
                          bif (!y22) then
                            k ((0 : Int), (0 : Int), (0 : Int), (0 : Int), false, (⟨#[]⟩ : ByteArray), (0 : Int), false, ([] : List dRange), ([] : List dWrite))
                          else
                            spec_ReadTxn_wj5000025 z19.2.2.1 z19.2.2.2.1 z19.2.2.2.2.1 z19.2.2.2.2.2.1 z19.2.2.2.2.2.2.1 z19.2.2.2.2.2.2.2.1 y21.2.1 y21.2.2.1 y21.2.2.2 z19.2.2.2.2.2.2.2.2.2.2.2.1 z19.2.2.2.2.2.2.2.2.2.2.2.2.1 z19.2.2.2.2.2.2.2.2.2.2.2.2.2.1 z19.2.2.2.2.2.2.2.2.2.2.2.2.2.2.1 y20.1 y21.1 ([] : List dRange) ([] : List dWrite) z19.2.2.2.2.2.2.2.2.2.2.2.2.2.2.2.2.2.1 z19.2.2.2.2.2.2.2.2.2.2.2.2.2.2.2.2.2.2 (fun z23 =>
                              k (z19.2.2.2.2.2.2.2.2.2.2.2.1, z19.2.2.2.2.2.2.2.2.2.2.2.2.1, z19.2.2.2.2.2.2.2.2.2.2.2.2.2.1, z19.2.2.2.2.2.2.2.2.2.2.2.2.2.2.1, y20.1, y21.1, y21.2.2.1, z23, z19.2.2.2.2.2.2.2.2.2.2.2.2.2.2.2.2.2.1, z19.2.2.2.2.2.2.2.2.2.2.2.2.2.2.2.2.2.2)))))))))))))

theorem spec_ReadTxn_r {a0 : ByteArray} {a1 : Int}  {k : (Int × Int × Int × Int × Bool × ByteArray × Int × Bool × (List dRange) × (List dWrite)) → Option Res} : spec_ReadTxn_k a0 a1 k = spec_ReadTxn_t a0 a1 k := by
  rw [spec_ReadTxn_e]
  simp only [spec_ReadTxn_d, spec_ReadTxn_t, spec_ReadTxn_wz5000025, Sum.elim_inl, Sum.elim_inr]

def impl_VarText_t (a0 : Int) (k : (ByteArray × Bool) → Option Res) : Option Res :=
  impl_within_k a0 (0 : Int) (1000000000 : Int) (fun y12 =>
    bif (!y12) then
      k ((⟨#[]⟩ : ByteArray), false)
    else
      loopK impl_VarText_b0 Fuel (a0, ([] : List Int)) (fun z13 =>
        if z13.2.length + [(IntKind.wrap .u8 z13.1)].length ≤ VE.maxLen then
          k ((bytesOf (z13.2 ++ [(IntKind.wrap .u8 z13.1)])), true)
        else none))

theorem impl_VarText_r {a0 : Int}  {k : (ByteArray × Bool) → Option Res} : impl_VarText_k a0 k = impl_VarText_t a0 k := by
  rw [impl_VarText_e]
  simp only [impl_VarText_d, impl_VarText_t, Sum.elim_inl, Sum.elim_inr]

def impl_ReadVar_wj6000001 (u0 : ByteArray) (u1 : Int) (u2 : Int) (u3 : Int) (u4 : Bool) (u5 : Int) (u6 : Int) (k : ((Int × Int × Bool × Int) ⊕ (Int × Int)) → Option Res) : Option Res :=
    if 0 ≤ (IntKind.wrap .i64 (u1 + u6)) ∧ (IntKind.wrap .i64 (u1 + u6)) < (u0.size : Int) then
      if (IntKind.wrap .i64 ((7 : Int) * u6)) < 0 then none else
        bif (decide ((IntKind.wrap .i64 (bt u0 (IntKind.wrap .i64 (u1 + u6)))) < (128 : Int))) then
          impl_VarText_k (IntKind.wrap .i64 (u5 + (IntKind.wrap .i64 (((IntKind.wrap .i64 (bt u0 (IntKind.wrap .i64 (u1 + u6)))).tmod (128 : Int)) * 2 ^ (min (IntKind.wrap .i64 ((7 : Int) * u6)).toNat (IntKind.bits .i64)))))) (fun y1 =>
            bif (!y1.2) then
              k (.inl ((0 : Int), (0 : Int), false, (IntKind.wrap .i64 (u5 + (IntKind.wrap .i64 (((IntKind.wrap .i64 (bt u0 (IntKind.wrap .i64 (u1 + u6)))).tmod (128 : Int)) * 2 ^ (min (IntKind.wrap .i64 ((7 : Int) * u6)).toNat (IntKind.bits .i64))))))))
            else
              bif ((y1.1.size : Int) != (IntKind.wrap .i64 (u6 + (1 : Int)))) then
                k (.inl ((0 : Int), (0 : Int), false, (IntKind.wrap .i64 (u5 + (IntKind.wrap .i64 (((IntKind.wrap .i64 (bt u0 (IntKind.wrap .i64 (u1 + u6)))).tmod (128 : Int)) * 2 ^ (min (IntKind.wrap .i64 ((7 : Int) * u6)).toNat (IntKind.bits .i64))))))))
              else
                k (.inl ((IntKind.wrap .i64 (u5 + (IntKind.wrap .i64 (((IntKind.wrap .i64 (bt u0 (IntKind.wrap .i64 (u1 + u6)))).tmod (128 : Int)) * 2 ^ (min (IntKind.wrap .i64 ((7 : Int) * u6)).toNat (IntKind.bits .i64)))))), (IntKind.wrap .i64 ((IntKind.wrap .i64 (u1 + u6)) + (1 : Int))), true, (IntKind.wrap .i64 (u5 + (IntKind.wrap .i64 (((IntKind.wrap .i64 (bt u0 (IntKind.wrap .i64 (u1 + u6)))).tmod (128 : Int)) * 2 ^ (min (IntKind.wrap .i64 ((7 : Int) * u6)).toNat (IntKind.bits .i64)))))))))
        else
          k (.inr ((IntKind.wrap .i64 (u5 + (IntKind.wrap .i64 (((IntKind.wrap .i64 (bt u0 (IntKind.wrap .i64 (u1 + u6)))).tmod (128 : Int)) * 2 ^ (min (IntKind.wrap .i64 ((7 : Int) * u6)).toNat (IntKind.bits .i64)))))), (IntKind.wrap .i64 (u6 + (1 : Int)))))
    else none

theorem impl_ReadVar_wz6000001 {u0 : ByteArray} {u1 : Int} {u2 : Int} {u3 : Int} {u4 : Bool} {u5 : Int} {u6 : Int}  {K : ((ByteArray × Int × Int × Int × Bool × Int × Int) ⊕ (ByteArray × Int × Int × Int × Bool × Int × Int)) → Option Res} : impl_ReadVar_j6000001 (u0, u1, u2, u3, u4, u5, u6) K = impl_ReadVar_wj6000001 u0 u1 u2 u3 u4 u5 u6 (Sum.elim (fun z => K (.inl (u0, u1, z.1, z.2.1, z.2.2.1, z.2.2.2, u6))) (fun z => K (.inr (u0, u1, u2, u3, u4, z.1, z.2)))) := by
  simp only [impl_ReadVar_j6000001, impl_ReadVar_wj6000001, Sum.elim_inl, Sum.elim_inr]

def impl_ReadVar_t (a0 : ByteArray) (a1 : Int) (k : (Int × Int × Bool) → Option Res) : Option Res :=
  impl_within_k a1 (0 : Int) (a0.size : Int) (fun y12 =>
    bif (!y12) then
      k ((0 : Int), (0 : Int), false)
    else
      loopK impl_ReadVar_b0 Fuel (a0, a1, (0 : Int), (0 : Int), false, (0 : Int), (0 : Int)) (Sum.elim (fun _ =>
        k ((0 : Int), (0 : Int), false)) (fun z14 =>
        k (z14.2.2.1, z14.2.2.2.1, z14.2.2.2.2.1))))

theorem impl_ReadVar_r {a0 : ByteArray} {a1 : Int}  {k : (Int × Int × Bool) → Option Res} : impl_ReadVar_k a0 a1 k = impl_ReadVar_t a0 a1 k := by
  rw [impl_ReadVar_e]
  simp only [impl_ReadVar_d, impl_ReadVar_t, Sum.elim_inl, Sum.elim_inr]

def impl_reader_each_reader_txn_1_wj6000001 (u0 : Int) (u1 : Int) (u2 : ByteArray) (u3 : Int) (u4 : Bool) (u5 : Int) (u6 : Int) (u7 : Int) (u8 : Int) (u9 : Bool) (u10 : ByteArray) (u11 : (List dRange)) (k : (Int × ByteArray × Int × Bool × Int × Int × Int × Int × Bool × ByteArray × (List dRange)) → Option Res) : Option Res :=
    impl_reader_txn_1_7316_k u5 u6 u7 u8 u9 u10 u11 u2 u3 u4 (fun y1 =>
      k ((IntKind.wrap .i64 (u1 + (1 : Int))), y1.2.2.2.2.2.2.1, y1.2.2.2.2.2.2.2.1, y1.2.2.2.2.2.2.2.2.1, y1.1, y1.2.1, y1.2.2.1, y1.2.2.2.1, y1.2.2.2.2.1, y1.2.2.2.2.2.1, y1.2.2.2.2.2.2.2.2.2))

theorem impl_reader_each_reader_txn_1_wz6000001 {u0 : Int} {u1 : Int} {u2 : ByteArray} {u3 : Int} {u4 : Bool} {u5 : Int} {u6 : Int} {u7 : Int} {u8 : Int} {u9 : Bool} {u10 : ByteArray} {u11 : (List dRange)}  {K : (Int × Int × ByteArray × Int × Bool × Int × Int × Int × Int × Bool × ByteArray × (List dRange)) → Option Res} : impl_reader_each_reader_txn_1_j6000001 (u0, u1, u2, u3, u4, u5, u6, u7, u8, u9, u10, u11) K = impl_reader_each_reader_txn_1_wj6000001 u0 u1 u2 u3 u4 u5 u6 u7 u8 u9 u10 u11 (fun z => K (u0, z.1, z.2.1, z.2.2.1, z.2.2.2.1, z.2.2.2.2.1, z.2.2.2.2.2.1, z.2.2.2.2.2.2.1, z.2.2.2.2.2.2.2.1, z.2.2.2.2.2.2.2.2.1, z.2.2.2.2.2.2.2.2.2.1, z.2.2.2.2.2.2.2.2.2.2)) := by
  simp only [impl_reader_each_reader_txn_1_j6000001, impl_reader_each_reader_txn_1_wj6000001, Sum.elim_inl, Sum.elim_inr]

def impl_reader_each_reader_txn_1_t (a0 : ByteArray) (a1 : Int) (a2 : Bool) (a3 : Int) (a4 : Int) (a5 : Int) (a6 : Int) (a7 : Bool) (a8 : ByteArray) (k : (ByteArray × Int × Bool × Int × Int × Int × Int × Bool × ByteArray × (List dRange)) → Option Res) : Option Res :=
  impl_reader_num_k a0 a1 a2 (fun y12 =>
    loopK impl_reader_each_reader_txn_1_b0 Fuel (y12.1, (0 : Int), y12.2.1, y12.2.2.1, y12.2.2.2, a3, a4, a5, a6, a7, a8, ([] : List dRange)) (fun z13 =>
      k (z13.2.2.1, z13.2.2.2.1, z13.2.2.2.2.1, z13.2.2.2.2.2.1, z13.2.2.2.2.2.2.1, z13.2.2.2.2.2.2.2.1, z13.2.2.2.2.2.2.2.2.1, z13.2.2.2.2.2.2.2.2.2.1, z13.2.2.2.2.2.2.2.2.2.2.1, z13.2.2.2.2.2.2.2.2.2.2.2)))

theorem impl_reader_each_reader_txn_1_r {a0 : ByteArray} {a1 : Int} {a2 : Bool} {a3 : Int} {a4 : Int} {a5 : Int} {a6 : Int} {a7 : Bool} {a8 : ByteArray}  {k : (ByteArray × Int × Bool × Int × Int × Int × Int × Bool × ByteArray × (List dRange)) → Option Res} : impl_reader_each_reader_txn_1_k a0 a1 a2 a3 a4 a5 a6 a7 a8 k = impl_reader_each_reader_txn_1_t a0 a1 a2 a3 a4 a5 a6 a7 a8 k := by
  rw [impl_reader_each_reader_txn_1_e]
  simp only [impl_reader_each_reader_txn_1_d, impl_reader_each_reader_txn_1_t, Sum.elim_inl, Sum.elim_inr]

def impl_reader_flag_wj5000004 (u0 : Bool) (u1 : ByteArray) (u2 : Int) (u3 : Bool) (k : (Bool × Int) → Option Res) : Option Res :=
    if 0 ≤ (IntKind.wrap .i64 ((IntKind.wrap .i64 (u2 + (1 : Int))) - (1 : Int))) ∧ (IntKind.wrap .i64 ((IntKind.wrap .i64 (u2 + (1 : Int))) - (1 : Int))) < (u1.size : Int) then
      k (((bt u1 (IntKind.wrap .i64 ((IntKind.wrap .i64 (u2 + (1 : Int))) - (1 : Int)))) == (1 : Int)), (IntKind.wrap .i64 (u2 + (1 : Int))))
    else none

theorem impl_reader_flag_wz5000004 {u0 : Bool} {u1 : ByteArray} {u2 : Int} {u3 : Bool}  {K : (Bool × ByteArray × Int × Bool) → Option Res} : impl_reader_flag_j5000004 (u0, u1, u2, u3) K = impl_reader_flag_wj5000004 u0 u1 u2 u3 (fun z => K (z.1, u1, z.2, u3)) := by
  simp only [impl_reader_flag_j5000004, impl_reader_flag_wj5000004, Sum.elim_inl, Sum.elim_inr]

def impl_reader_flag_t (a0 : ByteArray) (a1 : Int) (a2 : Bool) (k : (Bool × ByteArray × Int × Bool) → Option Res) : Option Res :=
  bif a2 then
    k (false, a0, a1, true)
  else
    impl_within_k a1 (0 : Int) (IntKind.wrap .i64 ((a0.size : Int) - (1 : Int))) (fun y12 =>
      bif (!y12) then
        k (false, a0, a1, true)
      else
        if 0 ≤ a1 ∧ a1 < (a0.size : Int) then
          bif (decide ((bt a0 a1) > (1 : Int))) then
            k (false, a0, a1, true)
          else
            impl_reader_flag_wj5000004 false a0 a1 a2 (fun z13 =>
              k (z13.1, a0, z13.2, a2))
        else none)

theorem impl_reader_flag_r {a0 : ByteArray} {a1 : Int} {a2 : Bool}  {k : (Bool × ByteArray × Int × Bool) → Option Res} : impl_reader_flag_k a0 a1 a2 k = impl_reader_flag_t a0 a1 a2 k := by
  rw [impl_reader_flag_e]
  simp only [impl_reader_flag_d, impl_reader_flag_t, impl_reader_flag_wz5000004, Sum.elim_inl, Sum.elim_inr]

def impl_reader_each_reader_txn_2_wj6000001 (u0 : Int) (u1 : Int) (u2 : ByteArray) (u3 : Int) (u4 : Bool) (u5 : Int) (u6 : Int) (u7 : Int) (u8 : Int) (u9 : Bool) (u10 : ByteArray) (u11 : (List dRange)) (u12 : (List dWrite)) (k : (Int × ByteArray × Int × Bool × Int × Int × Int × Int × Bool × ByteArray × (List dRange) × (List dWrite)) → Option Res) : Option Res :=
    impl_reader_txn_2_fd82_k u5 u6 u7 u8 u9 u10 u2 u3 u4 u11 u12 (fun y1 =>
      k ((IntKind.wrap .i64 (u1 + (1 : Int))), y1.2.2.2.2.2.2.1, y1.2.2.2.2.2.2.2.1, y1.2.2.2.2.2.2.2.2.1, y1.1, y1.2.1, y1.2.2.1, y1.2.2.2.1, y1.2.2.2.2.1, y1.2.2.2.2.2.1, y1.2.2.2.2.2.2.2.2.2.1, y1.2.2.2.2.2.2.2.2.2.2))

theorem impl_reader_each_reader_txn_2_wz6000001 {u0 : Int} {u1 : Int} {u2 : ByteArray} {u3 : Int} {u4 : Bool} {u5 : Int} {u6 : Int} {u7 : Int} {u8 : Int} {u9 : Bool} {u10 : ByteArray} {u11 : (List dRange)} {u12 : (List dWrite)}  {K : (Int × Int × ByteArray × Int × Bool × Int × Int × Int × Int × Bool × ByteArray × (List dRange) × (List dWrite)) → Option Res} : impl_reader_each_reader_txn_2_j6000001 (u0, u1, u2, u3, u4, u5, u6, u7, u8, u9, u10, u11, u12) K = impl_reader_each_reader_txn_2_wj6000001 u0 u1 u2 u3 u4 u5 u6 u7 u8 u9 u10 u11 u12 (fun z => K (u0, z.1, z.2.1, z.2.2.1, z.2.2.2.1, z.2.2.2.2.1, z.2.2.2.2.2.1, z.2.2.2.2.2.2.1, z.2.2.2.2.2.2.2.1, z.2.2.2.2.2.2.2.2.1, z.2.2.2.2.2.2.2.2.2.1, z.2.2.2.2.2.2.2.2.2.2.1, z.2.2.2.2.2.2.2.2.2.2.2)) := by
  simp only [impl_reader_each_reader_txn_2_j6000001, impl_reader_each_reader_txn_2_wj6000001, Sum.elim_inl, Sum.elim_inr]

def impl_reader_each_reader_txn_2_t (a0 : ByteArray) (a1 : Int) (a2 : Bool) (a3 : Int) (a4 : Int) (a5 : Int) (a6 : Int) (a7 : Bool) (a8 : ByteArray) (a9 : (List dRange)) (k : (ByteArray × Int × Bool × Int × Int × Int × Int × Bool × ByteArray × (List dRange) × (List dWrite)) → Option Res) : Option Res :=
  impl_reader_num_k a0 a1 a2 (fun y12 =>
    loopK impl_reader_each_reader_txn_2_b0 Fuel (y12.1, (0 : Int), y12.2.1, y12.2.2.1, y12.2.2.2, a3, a4, a5, a6, a7, a8, a9, ([] : List dWrite)) (fun z13 =>
      k (z13.2.2.1, z13.2.2.2.1, z13.2.2.2.2.1, z13.2.2.2.2.2.1, z13.2.2.2.2.2.2.1, z13.2.2.2.2.2.2.2.1, z13.2.2.2.2.2.2.2.2.1, z13.2.2.2.2.2.2.2.2.2.1, z13.2.2.2.2.2.2.2.2.2.2.1, z13.2.2.2.2.2.2.2.2.2.2.2.1, z13.2.2.2.2.2.2.2.2.2.2.2.2)))

theorem impl_reader_each_reader_txn_2_r {a0 : ByteArray} {a1 : Int} {a2 : Bool} {a3 : Int} {a4 : Int} {a5 : Int} {a6 : Int} {a7 : Bool} {a8 : ByteArray} {a9 : (List dRange)}  {k : (ByteArray × Int × Bool × Int × Int × Int × Int × Bool × ByteArray × (List dRange) × (List dWrite)) → Option Res} : impl_reader_each_reader_txn_2_k a0 a1 a2 a3 a4 a5 a6 a7 a8 a9 k = impl_reader_each_reader_txn_2_t a0 a1 a2 a3 a4 a5 a6 a7 a8 a9 k := by
  rw [impl_reader_each_reader_txn_2_e]
  simp only [impl_reader_each_reader_txn_2_d, impl_reader_each_reader_txn_2_t, Sum.elim_inl, Sum.elim_inr]

def impl_KeyOk_w0 (u0 : ByteArray) (u1 : Bool) : List Int → Nat → (((Bool × Int) ⊕ Int) → Option Res) → Option Res
  | [], i, k =>
    k (.inr (i : Int))
  | y :: l, i, k =>
    bif (decide (y < (97 : Int))) then
      k (.inl (false, (i : Int)))
    else
      bif (decide (y > (122 : Int))) then
        k (.inl (false, (i : Int)))
      else
        impl_KeyOk_w0 u0 u1 l (i + 1) k

theorem impl_KeyOk_lw0 {u0 : ByteArray} {u1 : Bool} (h0 : u0.size < 9223372036854775807) {K : ((ByteArray × Bool × Int) ⊕ (ByteArray × Bool × Int)) → Option Res} : ∀ (l : List Int) (i : Nat)  (n : Nat), (intsOf u0).drop i = l → l.length < n → loopK impl_KeyOk_b0 n (u0, u1, (i : Int)) K = impl_KeyOk_w0 u0 u1 l  i (Sum.elim (fun z => K (.inl (u0, z.1, z.2))) (fun z => K (.inr (u0, u1, z)))) := by
  intro l
  induction l with
  | nil =>
    intro i  n hd hn
    have hge := lws_nil hd
    cases n with
    | zero => exact absurd hn (Nat.not_lt_zero _)
    | succ n => simp only [loopK, impl_KeyOk_b0, impl_KeyOk_w0, hge, decide_false, cond_false, Sum.elim_inr, Sum.elim_inl]
  | cons y l ih =>
    intro i  n hd hn
    obtain ⟨hlt, hz, hd2, hw, hnn⟩ := lws_cons hd h0
    have hy := lws_get hd
    cases n with
    | zero => exact absurd hn (Nat.not_lt_zero _)
    | succ n =>
      have ih2 := ih (i + 1)  n hd2 (Nat.lt_of_succ_lt_succ hn)
      simp only [loopK, impl_KeyOk_b0, impl_KeyOk_w0, hlt, hz, decide_true, cond_true, and_self, if_true, hy, hw, hnn, Sum.elim_inl, Sum.elim_inr, ih2]

theorem impl_KeyOk_lz0 {u0 : ByteArray} {u1 : Bool} (h0 : u0.size < 9223372036854775807) {K : ((ByteArray × Bool × Int) ⊕ (ByteArray × Bool × Int)) → Option Res}  : loopK impl_KeyOk_b0 Fuel (u0, u1, (0 : Int)) K = impl_KeyOk_w0 u0 u1 (intsOf u0)  0 (Sum.elim (fun z => K (.inl (u0, z.1, z.2))) (fun z => K (.inr (u0, u1, z)))) :=
  impl_KeyOk_lw0 h0 (intsOf u0) 0  Fuel rfl (lws_fuel h0)

def impl_KeyOk_t (a0 : ByteArray) (k : Bool → Option Res) : Option Res :=
  impl_KeyOk_w0 a0 false (intsOf a0)  0 (Sum.elim (fun z12 =>
    k z12.1) (fun _ =>
    impl_within_k (a0.size : Int) (1 : Int) (3 : Int) (fun y14 =>
      k y14)))

theorem impl_KeyOk_r {a0 : ByteArray} (h0 : a0.size < 9223372036854775807) {k : Bool → Option Res} : impl_KeyOk_k a0 k = impl_KeyOk_t a0 k := by
  rw [impl_KeyOk_e]
  simp only [impl_KeyOk_d, impl_KeyOk_t, (impl_KeyOk_lz0 h0), Sum.elim_inl, Sum.elim_inr]

def impl_WritesOk_w0 (u0 : (List dWrite)) (u1 : Bool) (u2 : (List dWrite)) : List dWrite → Nat → (((Bool × Int) ⊕ Int) → Option Res) → Option Res
  | [], i, k =>
    k (.inr (i : Int))
  | y :: l, i, k =>
    impl_WriteOk_k y (fun y1 =>
      bif (!y1) then
        k (.inl (false, (i : Int)))
      else
        bif (decide ((i : Int) > (0 : Int))) then
          if 0 ≤ (IntKind.wrap .i64 ((i : Int) - (1 : Int))) ∧ (IntKind.wrap .i64 ((i : Int) - (1 : Int))) < (u0.length : Int) then
            bif (!(strLess ((rd (Ty.zero tWrite) u0 (IntKind.wrap .i64 ((i : Int) - (1 : Int)))).1) (y.1))) then
              k (.inl (false, (i : Int)))
            else
              impl_WritesOk_w0 u0 u1 u2 l (i + 1) k
          else none
        else
          impl_WritesOk_w0 u0 u1 u2 l (i + 1) k)

theorem impl_WritesOk_lw0 {u0 : (List dWrite)} {u1 : Bool} {u2 : (List dWrite)} (h0 : u2.length < 9223372036854775807) {K : (((List dWrite) × Bool × (List dWrite) × Int × Int) ⊕ ((List dWrite) × Bool × (List dWrite) × Int × Int)) → Option Res} : ∀ (l : List dWrite) (i : Nat)  (n : Nat), u2.drop i = l → l.length < n → loopK impl_WritesOk_b0 n (u0, u1, u2, (u2.length : Int), (i : Int)) K = impl_WritesOk_w0 u0 u1 u2 l  i (Sum.elim (fun z => K (.inl (u0, z.1, u2, (u2.length : Int), z.2))) (fun z => K (.inr (u0, u1, u2, (u2.length : Int), z)))) := by
  intro l
  induction l with
  | nil =>
    intro i  n hd hn
    have hge := lwl_nil hd
    cases n with
    | zero => exact absurd hn (Nat.not_lt_zero _)
    | succ n => simp only [loopK, impl_WritesOk_b0, impl_WritesOk_w0, hge, decide_false, cond_false, Sum.elim_inr, Sum.elim_inl]
  | cons y l ih =>
    intro i  n hd hn
    obtain ⟨hlt, hz, hd2, hw, hnn⟩ := lwl_cons hd h0
    have hy := lwl_get hd
    cases n with
    | zero => exact absurd hn (Nat.not_lt_zero _)
    | succ n =>
      have ih2 := ih (i + 1)  n hd2 (Nat.lt_of_succ_lt_succ hn)
      simp only [loopK, impl_WritesOk_b0, impl_WritesOk_w0, hlt, hz, decide_true, cond_true, and_self, if_true, hy, hw, hnn, Sum.elim_inl, Sum.elim_inr, ih2]

theorem impl_WritesOk_lz0 {u0 : (List dWrite)} {u1 : Bool} {u2 : (List dWrite)} (h0 : u2.length < 9223372036854775807) {K : (((List dWrite) × Bool × (List dWrite) × Int × Int) ⊕ ((List dWrite) × Bool × (List dWrite) × Int × Int)) → Option Res}  : loopK impl_WritesOk_b0 Fuel (u0, u1, u2, (u2.length : Int), (0 : Int)) K = impl_WritesOk_w0 u0 u1 u2 u2  0 (Sum.elim (fun z => K (.inl (u0, z.1, u2, (u2.length : Int), z.2))) (fun z => K (.inr (u0, u1, u2, (u2.length : Int), z)))) :=
  impl_WritesOk_lw0 h0 u2 0  Fuel rfl (lwl_fuel h0)

def impl_WritesOk_t (a0 : (List dWrite)) (k : Bool → Option Res) : Option Res :=
  impl_WritesOk_w0 a0 false a0 a0  0 (Sum.elim (fun z12 =>
    k z12.1) (fun _ =>
    k (decide ((a0.length : Int) ≤ (8 : Int)))))

theorem impl_WritesOk_r {a0 : (List dWrite)} (h0 : a0.length < 9223372036854775807) {k : Bool → Option Res} : impl_WritesOk_k a0 k = impl_WritesOk_t a0 k := by
  rw [impl_WritesOk_e]
  simp only [impl_WritesOk_d, impl_WritesOk_t, (impl_WritesOk_lz0 h0), Sum.elim_inl, Sum.elim_inr]

def impl_TxnOk_wj5000011 (u0 : Bool) (u1 : Int) (u2 : Int) (u3 : Int) (u4 : Int) (u5 : (List dRange)) (u6 : (List dWrite)) (u7 : Bool) (u8 : ByteArray) (k : Bool → Option Res) : Option Res :=
    bif (u2 == (2 : Int)) then
      impl_KeyOk_k u8 (fun y1 =>
        bif y1 then
          k true
        else
          bif (u2 != (2 : Int)) then
            k (strEq u8 (⟨#[]⟩ : ByteArray))
          else
            k false)
    else
      bif (u2 != (2 : Int)) then
        k (strEq u8 (⟨#[]⟩ : ByteArray))
      else
        k false

theorem impl_TxnOk_wz5000011 {u0 : Bool} {u1 : Int} {u2 : Int} {u3 : Int} {u4 : Int} {u5 : (List dRange)} {u6 : (List dWrite)} {u7 : Bool} {u8 : ByteArray}  {K : (Bool × Int × Int × Int × Int × (List dRange) × (List dWrite) × Bool × ByteArray) → Option Res} : impl_TxnOk_j5000011 (u0, u1, u2, u3, u4, u5, u6, u7, u8) K = impl_TxnOk_wj5000011 u0 u1 u2 u3 u4 u5 u6 u7 u8 (fun z => K (z, u1, u2, u3, u4, u5, u6, u7, u8)) := by
  simp only [impl_TxnOk_j5000011, impl_TxnOk_wj5000011, Sum.elim_inl, Sum.elim_inr]

def impl_TxnOk_wj5000009 (u0 : Bool) (u1 : Int) (u2 : Int) (u3 : Int) (u4 : Int) (u5 : (List dRange)) (u6 : (List dWrite)) (u7 : Bool) (u8 : ByteArray) (k : Bool → Option Res) : Option Res :=
    bif (u2 == (3 : Int)) then
      impl_within_k u4 (IntKind.wrap .i64 (u3 + (1 : Int))) (9999 : Int) (fun y1 =>
        bif (!y1) then
          k false
        else
          bif (u2 != (3 : Int)) then
            bif (u4 != (0 : Int)) then
              k false
            else
              impl_TxnOk_wj5000011 u0 u1 u2 u3 u4 u5 u6 u7 u8 (fun z2 =>
                k z2)
          else
            impl_TxnOk_wj5000011 u0 u1 u2 u3 u4 u5 u6 u7 u8 (fun z3 =>
              k z3))
    else
      bif (u2 != (3 : Int)) then
        bif (u4 != (0 : Int)) then
          k false
        else
          impl_TxnOk_wj5000011 u0 u1 u2 u3 u4 u5 u6 u7 u8 (fun z4 =>
            k z4)
      else
        impl_TxnOk_wj5000011 u0 u1 u2 u3 u4 u5 u6 u7 u8 (fun z5 =>
          k z5)

theorem impl_TxnOk_wz5000009 {u0 : Bool} {u1 : Int} {u2 : Int} {u3 : Int} {u4 : Int} {u5 : (List dRange)} {u6 : (List dWrite)} {u7 : Bool} {u8 : ByteArray}  {K : (Bool × Int × Int × Int × Int × (List dRange) × (List dWrite) × Bool × ByteArray) → Option Res} : impl_TxnOk_j5000009 (u0, u1, u2, u3, u4, u5, u6, u7, u8) K = impl_TxnOk_wj5000009 u0 u1 u2 u3 u4 u5 u6 u7 u8 (fun z => K (z, u1, u2, u3, u4, u5, u6, u7, u8)) := by
  simp only [impl_TxnOk_j5000009, impl_TxnOk_wj5000009, impl_TxnOk_wz5000011, Sum.elim_inl, Sum.elim_inr]

def impl_TxnOk_w0 (u0 : Bool) (u1 : (List dRange)) (u4 : Int) (u5 : Int) (u6 : Int) (u7 : Int) (u8 : (List dRange)) (u9 : (List dWrite)) (u10 : Bool) (u11 : ByteArray) : List dRange → Nat → (((Bool × Int) ⊕ Int) → Option Res) → Option Res
  | [], i, k =>
    k (.inr (i : Int))
  | y :: l, i, k =>
    impl_RangeOk_k y (fun y1 =>
      bif (!y1) then
        k (.inl (false, (i : Int)))
      else
        impl_TxnOk_w0 u0 u1 u4 u5 u6 u7 u8 u9 u10 u11 l (i + 1) k)

theorem impl_TxnOk_lw0 {u0 : Bool} {u1 : (List dRange)} {u4 : Int} {u5 : Int} {u6 : Int} {u7 : Int} {u8 : (List dRange)} {u9 : (List dWrite)} {u10 : Bool} {u11 : ByteArray} (h0 : u1.length < 9223372036854775807) {K : ((Bool × (List dRange) × Int × Int × Int × Int × Int × Int × (List dRange) × (List dWrite) × Bool × ByteArray) ⊕ (Bool × (List dRange) × Int × Int × Int × Int × Int × Int × (List dRange) × (List dWrite) × Bool × ByteArray)) → Option Res} : ∀ (l : List dRange) (i : Nat)  (n : Nat), u1.drop i = l → l.length < n → loopK impl_TxnOk_b0 n (u0, u1, (u1.length : Int), (i : Int), u4, u5, u6, u7, u8, u9, u10, u11) K = impl_TxnOk_w0 u0 u1 u4 u5 u6 u7 u8 u9 u10 u11 l  i (Sum.elim (fun z => K (.inl (z.1, u1, (u1.length : Int), z.2, u4, u5, u6, u7, u8, u9, u10, u11))) (fun z => K (.inr (u0, u1, (u1.length : Int), z, u4, u5, u6, u7, u8, u9, u10, u11)))) := by
  intro l
  induction l with
  | nil =>
    intro i  n hd hn
    have hge := lwl_nil hd
    cases n with
    | zero => exact absurd hn (Nat.not_lt_zero _)
    | succ n => simp only [loopK, impl_TxnOk_b0, impl_TxnOk_w0, hge, decide_false, cond_false, Sum.elim_inr, Sum.elim_inl]
  | cons y l ih =>
    intro i  n hd hn
    obtain ⟨hlt, hz, hd2, hw, hnn⟩ := lwl_cons hd h0
    have hy := lwl_get hd
    cases n with
    | zero => exact absurd hn (Nat.not_lt_zero _)
    | succ n =>
      have ih2 := ih (i + 1)  n hd2 (Nat.lt_of_succ_lt_succ hn)
      simp only [loopK, impl_TxnOk_b0, impl_TxnOk_w0, hlt, hz, decide_true, cond_true, and_self, if_true, hy, hw, hnn, Sum.elim_inl, Sum.elim_inr, ih2]

theorem impl_TxnOk_lz0 {u0 : Bool} {u1 : (List dRange)} {u4 : Int} {u5 : Int} {u6 : Int} {u7 : Int} {u8 : (List dRange)} {u9 : (List dWrite)} {u10 : Bool} {u11 : ByteArray} (h0 : u1.length < 9223372036854775807) {K : ((Bool × (List dRange) × Int × Int × Int × Int × Int × Int × (List dRange) × (List dWrite) × Bool × ByteArray) ⊕ (Bool × (List dRange) × Int × Int × Int × Int × Int × Int × (List dRange) × (List dWrite) × Bool × ByteArray)) → Option Res}  : loopK impl_TxnOk_b0 Fuel (u0, u1, (u1.length : Int), (0 : Int), u4, u5, u6, u7, u8, u9, u10, u11) K = impl_TxnOk_w0 u0 u1 u4 u5 u6 u7 u8 u9 u10 u11 u1  0 (Sum.elim (fun z => K (.inl (z.1, u1, (u1.length : Int), z.2, u4, u5, u6, u7, u8, u9, u10, u11))) (fun z => K (.inr (u0, u1, (u1.length : Int), z, u4, u5, u6, u7, u8, u9, u10, u11)))) :=
  impl_TxnOk_lw0 h0 u1 0  Fuel rfl (lwl_fuel h0)

def impl_TxnOk_t (a0 : dTxn) (k : Bool → Option Res) : Option Res :=
  impl_TxnOk_w0 false a0.2.2.2.2.1 a0.1 a0.2.1 a0.2.2.1 a0.2.2.2.1 a0.2.2.2.2.1 a0.2.2.2.2.2.1 a0.2.2.2.2.2.2.1 a0.2.2.2.2.2.2.2 a0.2.2.2.2.1  0 (Sum.elim (fun z12 =>
    k z12.1) (fun _ =>
    impl_within_k a0.1 (1 : Int) (9999 : Int) (fun y14 =>
      bif (!y14) then
        k false
      else
        impl_within_k a0.2.1 (1 : Int) (3 : Int) (fun y15 =>
          bif (!y15) then
            k false
          else
            impl_within_k a0.2.2.1 (0 : Int) (9999 : Int) (fun y16 =>
              bif (!y16) then
                k false
              else
                bif (decide ((a0.2.2.2.2.1.length : Int) > (8 : Int))) then
                  k false
                else
                  impl_WritesOk_k a0.2.2.2.2.2.1 (fun y17 =>
                    bif (!y17) then
                      k false
                    else
                      bif a0.2.2.2.2.2.2.1 then
                        bif (a0.2.1 == (1 : Int)) then
                          k false
                        else
                          impl_TxnOk_wj5000009 false a0.1 a0.2.1 a0.2.2.1 a0.2.2.2.1 a0.2.2.2.2.1 a0.2.2.2.2.2.1 a0.2.2.2.2.2.2.1 a0.2.2.2.2.2.2.2 (fun z18 =>
                            k z18)
                      else
                        impl_TxnOk_wj5000009 false a0.1 a0.2.1 a0.2.2.1 a0.2.2.2.1 a0.2.2.2.2.1 a0.2.2.2.2.2.1 a0.2.2.2.2.2.2.1 a0.2.2.2.2.2.2.2 (fun z19 =>
                          k z19)))))))

theorem impl_TxnOk_r {a0 : dTxn} (h0 : a0.2.2.2.2.1.length < 9223372036854775807) {k : Bool → Option Res} : impl_TxnOk_k a0 k = impl_TxnOk_t a0 k := by
  rw [impl_TxnOk_e]
  simp only [impl_TxnOk_d, impl_TxnOk_t, impl_TxnOk_wz5000009, (impl_TxnOk_lz0 h0), Sum.elim_inl, Sum.elim_inr]

def laws_eqRangeS_w0 (u0 : (List dRange)) (u1 : (List dRange)) (u2 : Bool) : List dRange → Nat → (((Bool × Int) ⊕ Int) → Option Res) → Option Res
  | [], i, k =>
    k (.inr (i : Int))
  | y :: l, i, k =>
    if 0 ≤ (i : Int) ∧ (i : Int) < (u1.length : Int) then
      laws_eqRange_k y (rd (Ty.zero tRange) u1 (i : Int)) (fun y1 =>
        bif (!y1) then
          k (.inl (false, (i : Int)))
        else
          laws_eqRangeS_w0 u0 u1 u2 l (i + 1) k)
    else none

theorem laws_eqRangeS_lw0 {u0 : (List dRange)} {u1 : (List dRange)} {u2 : Bool} (h0 : u0.length < 9223372036854775807) {K : (((List dRange) × (List dRange) × Bool × Int) ⊕ ((List dRange) × (List dRange) × Bool × Int)) → Option Res} : ∀ (l : List dRange) (i : Nat)  (n : Nat), u0.drop i = l → l.length < n → loopK laws_eqRangeS_b0 n (u0, u1, u2, (i : Int)) K = laws_eqRangeS_w0 u0 u1 u2 l  i (Sum.elim (fun z => K (.inl (u0, u1, z.1, z.2))) (fun z => K (.inr (u0, u1, u2, z)))) := by
  intro l
  induction l with
  | nil =>
    intro i  n hd hn
    have hge := lwl_nil hd
    cases n with
    | zero => exact absurd hn (Nat.not_lt_zero _)
    | succ n => simp only [loopK, laws_eqRangeS_b0, laws_eqRangeS_w0, hge, decide_false, cond_false, Sum.elim_inr, Sum.elim_inl]
  | cons y l ih =>
    intro i  n hd hn
    obtain ⟨hlt, hz, hd2, hw, hnn⟩ := lwl_cons hd h0
    have hy := lwl_get hd
    cases n with
    | zero => exact absurd hn (Nat.not_lt_zero _)
    | succ n =>
      have ih2 := ih (i + 1)  n hd2 (Nat.lt_of_succ_lt_succ hn)
      simp only [loopK, laws_eqRangeS_b0, laws_eqRangeS_w0, hlt, hz, decide_true, cond_true, and_self, if_true, hy, hw, hnn, Sum.elim_inl, Sum.elim_inr, ih2]

theorem laws_eqRangeS_lz0 {u0 : (List dRange)} {u1 : (List dRange)} {u2 : Bool} (h0 : u0.length < 9223372036854775807) {K : (((List dRange) × (List dRange) × Bool × Int) ⊕ ((List dRange) × (List dRange) × Bool × Int)) → Option Res}  : loopK laws_eqRangeS_b0 Fuel (u0, u1, u2, (0 : Int)) K = laws_eqRangeS_w0 u0 u1 u2 u0  0 (Sum.elim (fun z => K (.inl (u0, u1, z.1, z.2))) (fun z => K (.inr (u0, u1, u2, z)))) :=
  laws_eqRangeS_lw0 h0 u0 0  Fuel rfl (lwl_fuel h0)

def laws_eqRangeS_t (a0 : (List dRange)) (a1 : (List dRange)) (k : Bool → Option Res) : Option Res :=
  bif ((a0.length : Int) != (a1.length : Int)) then
    k false
  else
    laws_eqRangeS_w0 a0 a1 false a0  0 (Sum.elim (fun z12 =>
      k z12.1) (fun _ =>
      k true))

theorem laws_eqRangeS_r {a0 : (List dRange)} {a1 : (List dRange)} (h0 : a0.length < 9223372036854775807) {k : Bool → Option Res} : laws_eqRangeS_k a0 a1 k = laws_eqRangeS_t a0 a1 k := by
  rw [laws_eqRangeS_e]
  simp only [laws_eqRangeS_d, laws_eqRangeS_t, (laws_eqRangeS_lz0 h0), Sum.elim_inl, Sum.elim_inr]

def laws_eqWriteS_w0 (u0 : (List dWrite)) (u1 : (List dWrite)) (u2 : Bool) : List dWrite → Nat → (((Bool × Int) ⊕ Int) → Option Res) → Option Res
  | [], i, k =>
    k (.inr (i : Int))
  | y :: l, i, k =>
    if 0 ≤ (i : Int) ∧ (i : Int) < (u1.length : Int) then
      laws_eqWrite_k y (rd (Ty.zero tWrite) u1 (i : Int)) (fun y1 =>
        bif (!y1) then
          k (.inl (false, (i : Int)))
        else
          laws_eqWriteS_w0 u0 u1 u2 l (i + 1) k)
    else none

theorem laws_eqWriteS_lw0 {u0 : (List dWrite)} {u1 : (List dWrite)} {u2 : Bool} (h0 : u0.length < 9223372036854775807) {K : (((List dWrite) × (List dWrite) × Bool × Int) ⊕ ((List dWrite) × (List dWrite) × Bool × Int)) → Option Res} : ∀ (l : List dWrite) (i : Nat)  (n : Nat), u0.drop i = l → l.length < n → loopK laws_eqWriteS_b0 n (u0, u1, u2, (i : Int)) K = laws_eqWriteS_w0 u0 u1 u2 l  i (Sum.elim (fun z => K (.inl (u0, u1, z.1, z.2))) (fun z => K (.inr (u0, u1, u2, z)))) := by
  intro l
  induction l with
  | nil =>
    intro i  n hd hn
    have hge := lwl_nil hd
    cases n with
    | zero => exact absurd hn (Nat.not_lt_zero _)
    | succ n => simp only [loopK, laws_eqWriteS_b0, laws_eqWriteS_w0, hge, decide_false, cond_false, Sum.elim_inr, Sum.elim_inl]
  | cons y l ih =>
    intro i  n hd hn
    obtain ⟨hlt, hz, hd2, hw, hnn⟩ := lwl_cons hd h0
    have hy := lwl_get hd
    cases n with
    | zero => exact absurd hn (Nat.not_lt_zero _)
    | succ n =>
      have ih2 := ih (i + 1)  n hd2 (Nat.lt_of_succ_lt_succ hn)
      simp only [loopK, laws_eqWriteS_b0, laws_eqWriteS_w0, hlt, hz, decide_true, cond_true, and_self, if_true, hy, hw, hnn, Sum.elim_inl, Sum.elim_inr, ih2]

theorem laws_eqWriteS_lz0 {u0 : (List dWrite)} {u1 : (List dWrite)} {u2 : Bool} (h0 : u0.length < 9223372036854775807) {K : (((List dWrite) × (List dWrite) × Bool × Int) ⊕ ((List dWrite) × (List dWrite) × Bool × Int)) → Option Res}  : loopK laws_eqWriteS_b0 Fuel (u0, u1, u2, (0 : Int)) K = laws_eqWriteS_w0 u0 u1 u2 u0  0 (Sum.elim (fun z => K (.inl (u0, u1, z.1, z.2))) (fun z => K (.inr (u0, u1, u2, z)))) :=
  laws_eqWriteS_lw0 h0 u0 0  Fuel rfl (lwl_fuel h0)

def laws_eqWriteS_t (a0 : (List dWrite)) (a1 : (List dWrite)) (k : Bool → Option Res) : Option Res :=
  bif ((a0.length : Int) != (a1.length : Int)) then
    k false
  else
    laws_eqWriteS_w0 a0 a1 false a0  0 (Sum.elim (fun z12 =>
      k z12.1) (fun _ =>
      k true))

theorem laws_eqWriteS_r {a0 : (List dWrite)} {a1 : (List dWrite)} (h0 : a0.length < 9223372036854775807) {k : Bool → Option Res} : laws_eqWriteS_k a0 a1 k = laws_eqWriteS_t a0 a1 k := by
  rw [laws_eqWriteS_e]
  simp only [laws_eqWriteS_d, laws_eqWriteS_t, (laws_eqWriteS_lz0 h0), Sum.elim_inl, Sum.elim_inr]

def laws_markText_t (a0 : Int) (k : ByteArray → Option Res) : Option Res :=
  bif (decide (a0 ≤ (0 : Int))) then
    k (⟨#[109, 48]⟩ : ByteArray)
  else
    loopK laws_markText_b0 Fuel (a0, (⟨#[]⟩ : ByteArray)) (fun z12 =>
      if (⟨#[109]⟩ : ByteArray).size + z12.2.size ≤ 1099511627776 then
        k ((⟨#[109]⟩ : ByteArray) ++ z12.2)
      else none)

theorem laws_markText_r {a0 : Int}  {k : ByteArray → Option Res} : laws_markText_k a0 k = laws_markText_t a0 k := by
  rw [laws_markText_e]
  simp only [laws_markText_d, laws_markText_t, Sum.elim_inl, Sum.elim_inr]

def laws_markRangeS_vo_t (a0 : Int) (a1 : (List dRange)) (k : (Int × (List dRange)) → Option Res) : Option Res :=
  loopK laws_markRangeS_vo_b0 Fuel (a0, (0 : Int), a1) (fun z12 =>
    k (z12.1, z12.2.2))

theorem laws_markRangeS_vo_r {a0 : Int} {a1 : (List dRange)}  {k : (Int × (List dRange)) → Option Res} : laws_markRangeS_vo_k a0 a1 k = laws_markRangeS_vo_t a0 a1 k := by
  rw [laws_markRangeS_vo_e]
  simp only [laws_markRangeS_vo_d, laws_markRangeS_vo_t, Sum.elim_inl, Sum.elim_inr]

def laws_markWriteS_vo_t (a0 : Int) (a1 : (List dWrite)) (k : (Int × (List dWrite)) → Option Res) : Option Res :=
  loopK laws_markWriteS_vo_b0 Fuel (a0, (0 : Int), a1) (fun z12 =>
    k (z12.1, z12.2.2))

theorem laws_markWriteS_vo_r {a0 : Int} {a1 : (List dWrite)}  {k : (Int × (List dWrite)) → Option Res} : laws_markWriteS_vo_k a0 a1 k = laws_markWriteS_vo_t a0 a1 k := by
  rw [laws_markWriteS_vo_e]
  simp only [laws_markWriteS_vo_d, laws_markWriteS_vo_t, Sum.elim_inl, Sum.elim_inr]

def laws_heldRangeS_w0 (u0 : (List dRange)) (u2 : Int) : List dRange → Int → Nat → (((Int × Int × Int) ⊕ (Int × Int)) → Option Res) → Option Res
  | [], s1, i, k =>
    k (.inr (s1, (i : Int)))
  | y :: l, s1, i, k =>
    laws_markText_k s1 (fun y1 =>
      bif (!(strEq (y.1) y1)) then
        k (.inl (s1, (-1 : Int), (i : Int)))
      else
        laws_markText_k (IntKind.wrap .i64 (s1 + (1 : Int))) (fun y2 =>
          bif (!(strEq (y.2) y2)) then
            k (.inl ((IntKind.wrap .i64 (s1 + (1 : Int))), (-1 : Int), (i : Int)))
          else
            laws_heldRangeS_w0 u0 u2 l (IntKind.wrap .i64 ((IntKind.wrap .i64 (s1 + (1 : Int))) + (1 : Int))) (i + 1) k))

theorem laws_heldRangeS_lw0 {u0 : (List dRange)} {u2 : Int} (h0 : u0.length < 9223372036854775807) {K : (((List dRange) × Int × Int × Int) ⊕ ((List dRange) × Int × Int × Int)) → Option Res} : ∀ (l : List dRange) (i : Nat) (s1 : Int) (n : Nat), u0.drop i = l → l.length < n → loopK laws_heldRangeS_b0 n (u0, s1, u2, (i : Int)) K = laws_heldRangeS_w0 u0 u2 l s1 i (Sum.elim (fun z => K (.inl (u0, z.1, z.2.1, z.2.2))) (fun z => K (.inr (u0, z.1, u2, z.2)))) := by
  intro l
  induction l with
  | nil =>
    intro i s1 n hd hn
    have hge := lwl_nil hd
    cases n with
    | zero => exact absurd hn (Nat.not_lt_zero _)
    | succ n => simp only [loopK, laws_heldRangeS_b0, laws_heldRangeS_w0, hge, decide_false, cond_false, Sum.elim_inr, Sum.elim_inl]
  | cons y l ih =>
    intro i s1 n hd hn
    obtain ⟨hlt, hz, hd2, hw, hnn⟩ := lwl_cons hd h0
    have hy := lwl_get hd
    cases n with
    | zero => exact absurd hn (Nat.not_lt_zero _)
    | succ n =>
      have ih2 := fun (s1 : Int) => ih (i + 1) s1 n hd2 (Nat.lt_of_succ_lt_succ hn)
      simp only [loopK, laws_heldRangeS_b0, laws_heldRangeS_w0, hlt, hz, decide_true, cond_true, and_self, if_true, hy, hw, hnn, Sum.elim_inl, Sum.elim_inr, ih2]

theorem laws_heldRangeS_lz0 {u0 : (List dRange)} {u2 : Int} (h0 : u0.length < 9223372036854775807) {K : (((List dRange) × Int × Int × Int) ⊕ ((List dRange) × Int × Int × Int)) → Option Res} {s1 : Int} : loopK laws_heldRangeS_b0 Fuel (u0, s1, u2, (0 : Int)) K = laws_heldRangeS_w0 u0 u2 u0 s1 0 (Sum.elim (fun z => K (.inl (u0, z.1, z.2.1, z.2.2))) (fun z => K (.inr (u0, z.1, u2, z.2)))) :=
  laws_heldRangeS_lw0 h0 u0 0 s1 Fuel rfl (lwl_fuel h0)

def laws_heldRangeS_t (a0 : (List dRange)) (a1 : Int) (k : Int → Option Res) : Option Res :=
  laws_heldRangeS_w0 a0 (0 : Int) a0 a1 0 (Sum.elim (fun z12 =>
    k z12.2.1) (fun z13 =>
    k z13.1))

theorem laws_heldRangeS_r {a0 : (List dRange)} {a1 : Int} (h0 : a0.length < 9223372036854775807) {k : Int → Option Res} : laws_heldRangeS_k a0 a1 k = laws_heldRangeS_t a0 a1 k := by
  rw [laws_heldRangeS_e]
  simp only [laws_heldRangeS_d, laws_heldRangeS_t, (laws_heldRangeS_lz0 h0), Sum.elim_inl, Sum.elim_inr]

def laws_heldWriteS_w0 (u0 : (List dWrite)) (u2 : Int) : List dWrite → Int → Nat → (((Int × Int × Int) ⊕ (Int × Int)) → Option Res) → Option Res
  | [], s1, i, k =>
    k (.inr (s1, (i : Int)))
  | y :: l, s1, i, k =>
    laws_markText_k s1 (fun y1 =>
      bif (!(strEq (y.1) y1)) then
        k (.inl (s1, (-1 : Int), (i : Int)))
      else
        laws_markText_k (IntKind.wrap .i64 (s1 + (1 : Int))) (fun y2 =>
          bif (!(strEq (y.2.1) y2)) then
            k (.inl ((IntKind.wrap .i64 (s1 + (1 : Int))), (-1 : Int), (i : Int)))
          else
            bif (!(y.2.2 == (((IntKind.wrap .i64 ((IntKind.wrap .i64 (s1 + (1 : Int))) + (1 : Int))).tmod (3 : Int)) == (0 : Int)))) then
              k (.inl ((IntKind.wrap .i64 ((IntKind.wrap .i64 (s1 + (1 : Int))) + (1 : Int))), (-1 : Int), (i : Int)))
            else
              laws_heldWriteS_w0 u0 u2 l (IntKind.wrap .i64 ((IntKind.wrap .i64 ((IntKind.wrap .i64 (s1 + (1 : Int))) + (1 : Int))) + (1 : Int))) (i + 1) k))

theorem laws_heldWriteS_lw0 {u0 : (List dWrite)} {u2 : Int} (h0 : u0.length < 9223372036854775807) {K : (((List dWrite) × Int × Int × Int) ⊕ ((List dWrite) × Int × Int × Int)) → Option Res} : ∀ (l : List dWrite) (i : Nat) (s1 : Int) (n : Nat), u0.drop i = l → l.length < n → loopK laws_heldWriteS_b0 n (u0, s1, u2, (i : Int)) K = laws_heldWriteS_w0 u0 u2 l s1 i (Sum.elim (fun z => K (.inl (u0, z.1, z.2.1, z.2.2))) (fun z => K (.inr (u0, z.1, u2, z.2)))) := by
  intro l
  induction l with
  | nil =>
    intro i s1 n hd hn
    have hge := lwl_nil hd
    cases n with
    | zero => exact absurd hn (Nat.not_lt_zero _)
    | succ n => simp only [loopK, laws_heldWriteS_b0, laws_heldWriteS_w0, hge, decide_false, cond_false, Sum.elim_inr, Sum.elim_inl]
  | cons y l ih =>
    intro i s1 n hd hn
    obtain ⟨hlt, hz, hd2, hw, hnn⟩ := lwl_cons hd h0
    have hy := lwl_get hd
    cases n with
    | zero => exact absurd hn (Nat.not_lt_zero _)
    | succ n =>
      have ih2 := fun (s1 : Int) => ih (i + 1) s1 n hd2 (Nat.lt_of_succ_lt_succ hn)
      simp only [loopK, laws_heldWriteS_b0, laws_heldWriteS_w0, hlt, hz, decide_true, cond_true, and_self, if_true, hy, hw, hnn, Sum.elim_inl, Sum.elim_inr, ih2]

theorem laws_heldWriteS_lz0 {u0 : (List dWrite)} {u2 : Int} (h0 : u0.length < 9223372036854775807) {K : (((List dWrite) × Int × Int × Int) ⊕ ((List dWrite) × Int × Int × Int)) → Option Res} {s1 : Int} : loopK laws_heldWriteS_b0 Fuel (u0, s1, u2, (0 : Int)) K = laws_heldWriteS_w0 u0 u2 u0 s1 0 (Sum.elim (fun z => K (.inl (u0, z.1, z.2.1, z.2.2))) (fun z => K (.inr (u0, z.1, u2, z.2)))) :=
  laws_heldWriteS_lw0 h0 u0 0 s1 Fuel rfl (lwl_fuel h0)

def laws_heldWriteS_t (a0 : (List dWrite)) (a1 : Int) (k : Int → Option Res) : Option Res :=
  laws_heldWriteS_w0 a0 (0 : Int) a0 a1 0 (Sum.elim (fun z12 =>
    k z12.2.1) (fun z13 =>
    k z13.1))

theorem laws_heldWriteS_r {a0 : (List dWrite)} {a1 : Int} (h0 : a0.length < 9223372036854775807) {k : Int → Option Res} : laws_heldWriteS_k a0 a1 k = laws_heldWriteS_t a0 a1 k := by
  rw [laws_heldWriteS_e]
  simp only [laws_heldWriteS_d, laws_heldWriteS_t, (laws_heldWriteS_lz0 h0), Sum.elim_inl, Sum.elim_inr]

def laws_FnExactReadTxn_wj5000018 (u0 : Bool) (u1 : Int) (u2 : Int) (u3 : Int) (u4 : Int) (u5 : Int) (u6 : Bool) (u7 : ByteArray) (u8 : (List dRange)) (u9 : (List dWrite)) (k : Bool → Option Res) : Option Res :=
    laws_heldTxn_k (u2, (u3, (u4, (u5, (u8, (u9, (u6, u7))))))) (1 : Int) (fun y1 =>
      bif (decide (y1 < (0 : Int))) then
        k false
      else
        bif (y1 != u1) then
          k false
        else
          k true)

theorem laws_FnExactReadTxn_wz5000018 {u0 : Bool} {u1 : Int} {u2 : Int} {u3 : Int} {u4 : Int} {u5 : Int} {u6 : Bool} {u7 : ByteArray} {u8 : (List dRange)} {u9 : (List dWrite)}  {K : (Bool × Int × Int × Int × Int × Int × Bool × ByteArray × (List dRange) × (List dWrite)) → Option Res} : laws_FnExactReadTxn_j5000018 (u0, u1, u2, u3, u4, u5, u6, u7, u8, u9) K = laws_FnExactReadTxn_wj5000018 u0 u1 u2 u3 u4 u5 u6 u7 u8 u9 (fun z => K (z, u1, u2, u3, u4, u5, u6, u7, u8, u9)) := by
  simp only [laws_FnExactReadTxn_j5000018, laws_FnExactReadTxn_wj5000018, Sum.elim_inl, Sum.elim_inr]

def laws_FnExactReadTxn_wj5000007 (u0 : ByteArray) (u1 : Int) (u2 : Bool) (u3 : Int) (u4 : Bool) (u5 : Int) (u6 : Int) (u7 : Int) (u8 : Int) (u9 : Bool) (u10 : ByteArray) (u11 : Int) (u12 : Int) (u13 : Int) (u14 : Int) (u15 : Bool) (u16 : ByteArray) (u17 : (List dRange)) (u18 : (List dWrite)) (u19 : (List dRange)) (u20 : (List dWrite)) (k : ((Bool × (List dRange) × (List dWrite)) ⊕ (Bool × (List dRange) × (List dWrite))) → Option Res) : Option Res :=
    laws_markTxn_va_k u11 u12 u13 u14 u15 u16 (1 : Int) u19 u20 (fun y1 =>
      laws_heldTxn_k (u11, (u12, (u13, (u14, (y1.2.1, (y1.2.2, (u15, u16))))))) (1 : Int) (fun y2 =>
        bif (decide (y2 < (0 : Int))) then
          k (.inl (false, y1.2.1, y1.2.2))
        else
          bif (y2 != y1.1) then
            k (.inl (false, y1.2.1, y1.2.2))
          else
            impl_ReadTxn_k u0 u1 (fun y3 =>
              laws_eqTxn_k (y3.1, (y3.2.1, (y3.2.2.1, (y3.2.2.2.1, (y3.2.2.2.2.2.2.2.2.1, (y3.2.2.2.2.2.2.2.2.2, (y3.2.2.2.2.1, y3.2.2.2.2.2.1))))))) (u5, (u6, (u7, (u8, (u17, (u18, (u9, u10))))))) (fun y4 =>
                bif (!y4) then
                  k (.inl (false, y1.2.1, y1.2.2))
                else
                  bif (y3.2.2.2.2.2.2.1 != u3) then
                    k (.inl (false, y1.2.1, y1.2.2))
                  else
                    bif (!(y3.2.2.2.2.2.2.2.1 == u4)) then
                      k (.inl (false, y1.2.1, y1.2.2))
                    else
                      laws_FnExactReadTxn_wj5000018 u2 y1.1 u11 u12 u13 u14 u15 u16 y1.2.1 y1.2.2 (fun z5 =>
                        k (.inr (z5, y1.2.1, y1.2.2)))))))

theorem laws_FnExactReadTxn_wz5000007 {u0 : ByteArray} {u1 : Int} {u2 : Bool} {u3 : Int} {u4 : Bool} {u5 : Int} {u6 : Int} {u7 : Int} {u8 : Int} {u9 : Bool} {u10 : ByteArray} {u11 : Int} {u12 : Int} {u13 : Int} {u14 : Int} {u15 : Bool} {u16 : ByteArray} {u17 : (List dRange)} {u18 : (List dWrite)} {u19 : (List dRange)} {u20 : (List dWrite)}  {K : ((ByteArray × Int × Bool × Int × Bool × Int × Int × Int × Int × Bool × ByteArray × Int × Int × Int × Int × Bool × ByteArray × (List dRange) × (List dWrite) × (List dRange) × (List dWrite)) ⊕ (Bool × Int × Int × Int × Int × Bool × ByteArray × (List dRange) × (List dWrite))) → Option Res} : laws_FnExactReadTxn_j5000007 (u0, u1, u2, u3, u4, u5, u6, u7, u8, u9, u10, u11, u12, u13, u14, u15, u16, u17, u18, u19, u20) K = laws_FnExactReadTxn_wj5000007 u0 u1 u2 u3 u4 u5 u6 u7 u8 u9 u10 u11 u12 u13 u14 u15 u16 u17 u18 u19 u20 (Sum.elim (fun z => K (.inl (u0, u1, z.1, u3, u4, u5, u6, u7, u8, u9, u10, u11, u12, u13, u14, u15, u16, u17, u18, z.2.1, z.2.2))) (fun z => K (.inr (z.1, u11, u12, u13, u14, u15, u16, z.2.1, z.2.2)))) := by
  simp only [laws_FnExactReadTxn_j5000007, laws_FnExactReadTxn_wj5000007, laws_FnExactReadTxn_wz5000018, Sum.elim_inl, Sum.elim_inr]

def laws_FnExactReadTxn_t (a0 : ByteArray) (a1 : Int) (k : Bool → Option Res) : Option Res :=
  bif (decide ((a0.size : Int) > (1048576 : Int))) then
    k true
  else
    spec_ReadTxn_k a0 a1 (fun y12 =>
      impl_ReadTxn_k a0 a1 (fun y13 =>
        laws_eqTxn_k (y13.1, (y13.2.1, (y13.2.2.1, (y13.2.2.2.1, (y13.2.2.2.2.2.2.2.2.1, (y13.2.2.2.2.2.2.2.2.2, (y13.2.2.2.2.1, y13.2.2.2.2.2.1))))))) (y12.1, (y12.2.1, (y12.2.2.1, (y12.2.2.2.1, (y12.2.2.2.2.2.2.2.2.1, (y12.2.2.2.2.2.2.2.2.2, (y12.2.2.2.2.1, y12.2.2.2.2.2.1))))))) (fun y14 =>
          bif (!y14) then
            k false
          else
            bif (y13.2.2.2.2.2.2.1 != y12.2.2.2.2.2.2.1) then
              k false
            else
              bif (!(y13.2.2.2.2.2.2.2.1 == y12.2.2.2.2.2.2.2.1)) then
                k false
              else
                laws_FnExactReadTxn_wj5000007 a0 a1 false y12.2.2.2.2.2.2.1 y12.2.2.2.2.2.2.2.1 y12.1 y12.2.1 y12.2.2.1 y12.2.2.2.1 y12.2.2.2.2.1 y12.2.2.2.2.2.1 y13.1 y13.2.1 y13.2.2.1 y13.2.2.2.1 y13.2.2.2.2.1 y13.2.2.2.2.2.1 y12.2.2.2.2.2.2.2.2.1 y12.2.2.2.2.2.2.2.2.2 y13.2.2.2.2.2.2.2.2.1 y13.2.2.2.2.2.2.2.2.2 (Sum.elim (fun z15 =>
                  k z15.1) (fun z16 =>
                  k z16.1)))))

theorem laws_FnExactReadTxn_r {a0 : ByteArray} {a1 : Int}  {k : Bool → Option Res} : laws_FnExactReadTxn_k a0 a1 k = laws_FnExactReadTxn_t a0 a1 k := by
  rw [laws_FnExactReadTxn_e]
  simp only [laws_FnExactReadTxn_d, laws_FnExactReadTxn_t, laws_FnExactReadTxn_wz5000007, Sum.elim_inl, Sum.elim_inr]

end

end Go.VE
