/- Loops told as recursions over what is left; written by gen.py. -/

import Derived.Test.YtbedbcnmfoildaaReadRangeN

import Derived.Test.YtbedbcnmfoildaaP1

namespace Go.VE

noncomputable section

set_option linter.unusedVariables false
set_option linter.unusedSimpArgs false
set_option maxRecDepth 100000


def laws_szRangeS_w0 (u0 : (List dRange)) (u2 : Int) : List dRange → Int → Nat → (((Int × Int × Int) ⊕ (Int × Int)) → Option Res) → Option Res
  | [], s1, i, k =>
    k (.inr (s1, (i : Int)))
  | y :: l, s1, i, k =>
    laws_szRange_k y s1 (fun y1 =>
      bif (decide (y1 < (0 : Int))) then
        k (.inl (y1, (-1 : Int), (i : Int)))
      else
        laws_szRangeS_w0 u0 u2 l y1 (i + 1) k)

theorem laws_szRangeS_lw0 {u0 : (List dRange)} {u2 : Int} (h0 : u0.length < 9223372036854775807) {K : (((List dRange) × Int × Int × Int) ⊕ ((List dRange) × Int × Int × Int)) → Option Res} : ∀ (l : List dRange) (i : Nat) (s1 : Int) (n : Nat), u0.drop i = l → l.length < n → loopK laws_szRangeS_b0 n (u0, s1, u2, (i : Int)) K = laws_szRangeS_w0 u0 u2 l s1 i (Sum.elim (fun z => K (.inl (u0, z.1, z.2.1, z.2.2))) (fun z => K (.inr (u0, z.1, u2, z.2)))) := by
  intro l
  induction l with
  | nil =>
    intro i s1 n hd hn
    have hge := lwl_nil hd
    cases n with
    | zero => exact absurd hn (Nat.not_lt_zero _)
    | succ n => simp only [loopK, laws_szRangeS_b0, laws_szRangeS_w0, hge, decide_false, cond_false, Sum.elim_inr, Sum.elim_inl]
  | cons y l ih =>
    intro i s1 n hd hn
    obtain ⟨hlt, hz, hd2, hw, hnn⟩ := lwl_cons hd h0
    have hy := lwl_get hd
    cases n with
    | zero => exact absurd hn (Nat.not_lt_zero _)
    | succ n =>
      have ih2 := fun (s1 : Int) => ih (i + 1) s1 n hd2 (Nat.lt_of_succ_lt_succ hn)
      simp only [loopK, laws_szRangeS_b0, laws_szRangeS_w0, hlt, hz, decide_true, cond_true, and_self, if_true, hy, hw, hnn, Sum.elim_inl, Sum.elim_inr, ih2]

theorem laws_szRangeS_lz0 {u0 : (List dRange)} {u2 : Int} (h0 : u0.length < 9223372036854775807) {K : (((List dRange) × Int × Int × Int) ⊕ ((List dRange) × Int × Int × Int)) → Option Res} {s1 : Int} : loopK laws_szRangeS_b0 Fuel (u0, s1, u2, (0 : Int)) K = laws_szRangeS_w0 u0 u2 u0 s1 0 (Sum.elim (fun z => K (.inl (u0, z.1, z.2.1, z.2.2))) (fun z => K (.inr (u0, z.1, u2, z.2)))) :=
  laws_szRangeS_lw0 h0 u0 0 s1 Fuel rfl (lwl_fuel h0)

def laws_szRangeS_t (a0 : (List dRange)) (a1 : Int) (k : Int → Option Res) : Option Res :=
  bif (decide ((IntKind.wrap .i64 (a1 - (a0.length : Int))) < (0 : Int))) then
    k (-1 : Int)
  else
    laws_szRangeS_w0 a0 (0 : Int) a0 (IntKind.wrap .i64 (a1 - (a0.length : Int))) 0 (Sum.elim (fun z27 =>
      k z27.2.1) (fun z28 =>
      k z28.1))

theorem laws_szRangeS_r {a0 : (List dRange)} {a1 : Int} (h0 : a0.length < 9223372036854775807) {k : Int → Option Res} : laws_szRangeS_k a0 a1 k = laws_szRangeS_t a0 a1 k := by
  rw [laws_szRangeS_e]
  simp only [laws_szRangeS_d, laws_szRangeS_t, (laws_szRangeS_lz0 h0), Sum.elim_inl, Sum.elim_inr]

def laws_szWriteS_w0 (u0 : (List dWrite)) (u2 : Int) : List dWrite → Int → Nat → (((Int × Int × Int) ⊕ (Int × Int)) → Option Res) → Option Res
  | [], s1, i, k =>
    k (.inr (s1, (i : Int)))
  | y :: l, s1, i, k =>
    laws_szWrite_k y s1 (fun y1 =>
      bif (decide (y1 < (0 : Int))) then
        k (.inl (y1, (-1 : Int), (i : Int)))
      else
        laws_szWriteS_w0 u0 u2 l y1 (i + 1) k)

theorem laws_szWriteS_lw0 {u0 : (List dWrite)} {u2 : Int} (h0 : u0.length < 9223372036854775807) {K : (((List dWrite) × Int × Int × Int) ⊕ ((List dWrite) × Int × Int × Int)) → Option Res} : ∀ (l : List dWrite) (i : Nat) (s1 : Int) (n : Nat), u0.drop i = l → l.length < n → loopK laws_szWriteS_b0 n (u0, s1, u2, (i : Int)) K = laws_szWriteS_w0 u0 u2 l s1 i (Sum.elim (fun z => K (.inl (u0, z.1, z.2.1, z.2.2))) (fun z => K (.inr (u0, z.1, u2, z.2)))) := by
  intro l
  induction l with
  | nil =>
    intro i s1 n hd hn
    have hge := lwl_nil hd
    cases n with
    | zero => exact absurd hn (Nat.not_lt_zero _)
    | succ n => simp only [loopK, laws_szWriteS_b0, laws_szWriteS_w0, hge, decide_false, cond_false, Sum.elim_inr, Sum.elim_inl]
  | cons y l ih =>
    intro i s1 n hd hn
    obtain ⟨hlt, hz, hd2, hw, hnn⟩ := lwl_cons hd h0
    have hy := lwl_get hd
    cases n with
    | zero => exact absurd hn (Nat.not_lt_zero _)
    | succ n =>
      have ih2 := fun (s1 : Int) => ih (i + 1) s1 n hd2 (Nat.lt_of_succ_lt_succ hn)
      simp only [loopK, laws_szWriteS_b0, laws_szWriteS_w0, hlt, hz, decide_true, cond_true, and_self, if_true, hy, hw, hnn, Sum.elim_inl, Sum.elim_inr, ih2]

theorem laws_szWriteS_lz0 {u0 : (List dWrite)} {u2 : Int} (h0 : u0.length < 9223372036854775807) {K : (((List dWrite) × Int × Int × Int) ⊕ ((List dWrite) × Int × Int × Int)) → Option Res} {s1 : Int} : loopK laws_szWriteS_b0 Fuel (u0, s1, u2, (0 : Int)) K = laws_szWriteS_w0 u0 u2 u0 s1 0 (Sum.elim (fun z => K (.inl (u0, z.1, z.2.1, z.2.2))) (fun z => K (.inr (u0, z.1, u2, z.2)))) :=
  laws_szWriteS_lw0 h0 u0 0 s1 Fuel rfl (lwl_fuel h0)

def laws_szWriteS_t (a0 : (List dWrite)) (a1 : Int) (k : Int → Option Res) : Option Res :=
  bif (decide ((IntKind.wrap .i64 (a1 - (a0.length : Int))) < (0 : Int))) then
    k (-1 : Int)
  else
    laws_szWriteS_w0 a0 (0 : Int) a0 (IntKind.wrap .i64 (a1 - (a0.length : Int))) 0 (Sum.elim (fun z27 =>
      k z27.2.1) (fun z28 =>
      k z28.1))

theorem laws_szWriteS_r {a0 : (List dWrite)} {a1 : Int} (h0 : a0.length < 9223372036854775807) {k : Int → Option Res} : laws_szWriteS_k a0 a1 k = laws_szWriteS_t a0 a1 k := by
  rw [laws_szWriteS_e]
  simp only [laws_szWriteS_d, laws_szWriteS_t, (laws_szWriteS_lz0 h0), Sum.elim_inl, Sum.elim_inr]

def laws_toRangeS_w0 (u0 : (List dRange)) : List dRange → (List dRange) → Nat → ((Int × (List dRange)) → Option Res) → Option Res
  | [], s2, i, k =>
    k ((i : Int), s2)
  | y :: l, s2, i, k =>
    laws_toRange_k y (fun y1 =>
      if 0 ≤ (i : Int) ∧ (i : Int) < (s2.length : Int) then
        laws_toRangeS_w0 u0 l (s2.set (i : Int).toNat y1) (i + 1) k
      else none)

theorem laws_toRangeS_lw0 {u0 : (List dRange)} (h0 : u0.length < 9223372036854775807) {K : ((List dRange) × Int × (List dRange)) → Option Res} : ∀ (l : List dRange) (i : Nat) (s2 : (List dRange)) (n : Nat), u0.drop i = l → l.length < n → loopK laws_toRangeS_b0 n (u0, (i : Int), s2) K = laws_toRangeS_w0 u0 l s2 i (fun z => K (u0, z.1, z.2)) := by
  intro l
  induction l with
  | nil =>
    intro i s2 n hd hn
    have hge := lwl_nil hd
    cases n with
    | zero => exact absurd hn (Nat.not_lt_zero _)
    | succ n => simp only [loopK, laws_toRangeS_b0, laws_toRangeS_w0, hge, decide_false, cond_false, Sum.elim_inr, Sum.elim_inl]
  | cons y l ih =>
    intro i s2 n hd hn
    obtain ⟨hlt, hz, hd2, hw, hnn⟩ := lwl_cons hd h0
    have hy := lwl_get hd
    cases n with
    | zero => exact absurd hn (Nat.not_lt_zero _)
    | succ n =>
      have ih2 := fun (s2 : (List dRange)) => ih (i + 1) s2 n hd2 (Nat.lt_of_succ_lt_succ hn)
      simp only [loopK, laws_toRangeS_b0, laws_toRangeS_w0, hlt, hz, decide_true, cond_true, and_self, if_true, hy, hw, hnn, Sum.elim_inl, Sum.elim_inr, ih2]

theorem laws_toRangeS_lz0 {u0 : (List dRange)} (h0 : u0.length < 9223372036854775807) {K : ((List dRange) × Int × (List dRange)) → Option Res} {s2 : (List dRange)} : loopK laws_toRangeS_b0 Fuel (u0, (0 : Int), s2) K = laws_toRangeS_w0 u0 u0 s2 0 (fun z => K (u0, z.1, z.2)) :=
  laws_toRangeS_lw0 h0 u0 0 s2 Fuel rfl (lwl_fuel h0)

def laws_toRangeS_t (a0 : (List dRange)) (k : (List dRange) → Option Res) : Option Res :=
  if 0 ≤ (a0.length : Int) ∧ (a0.length : Int) ≤ (a0.length : Int) ∧ (a0.length : Int) ≤ (VE.maxLen : Int) then
    laws_toRangeS_w0 a0 a0 (List.replicate (a0.length : Int).toNat (Ty.zero tRange)) 0 (fun z27 =>
      k z27.2)
  else none

theorem laws_toRangeS_r {a0 : (List dRange)} (h0 : a0.length < 9223372036854775807) {k : (List dRange) → Option Res} : laws_toRangeS_k a0 k = laws_toRangeS_t a0 k := by
  rw [laws_toRangeS_e]
  simp only [laws_toRangeS_d, laws_toRangeS_t, (laws_toRangeS_lz0 h0), Sum.elim_inl, Sum.elim_inr]

def laws_toWriteS_w0 (u0 : (List dWrite)) : List dWrite → (List dWrite) → Nat → ((Int × (List dWrite)) → Option Res) → Option Res
  | [], s2, i, k =>
    k ((i : Int), s2)
  | y :: l, s2, i, k =>
    laws_toWrite_k y (fun y1 =>
      if 0 ≤ (i : Int) ∧ (i : Int) < (s2.length : Int) then
        laws_toWriteS_w0 u0 l (s2.set (i : Int).toNat y1) (i + 1) k
      else none)

theorem laws_toWriteS_lw0 {u0 : (List dWrite)} (h0 : u0.length < 9223372036854775807) {K : ((List dWrite) × Int × (List dWrite)) → Option Res} : ∀ (l : List dWrite) (i : Nat) (s2 : (List dWrite)) (n : Nat), u0.drop i = l → l.length < n → loopK laws_toWriteS_b0 n (u0, (i : Int), s2) K = laws_toWriteS_w0 u0 l s2 i (fun z => K (u0, z.1, z.2)) := by
  intro l
  induction l with
  | nil =>
    intro i s2 n hd hn
    have hge := lwl_nil hd
    cases n with
    | zero => exact absurd hn (Nat.not_lt_zero _)
    | succ n => simp only [loopK, laws_toWriteS_b0, laws_toWriteS_w0, hge, decide_false, cond_false, Sum.elim_inr, Sum.elim_inl]
  | cons y l ih =>
    intro i s2 n hd hn
    obtain ⟨hlt, hz, hd2, hw, hnn⟩ := lwl_cons hd h0
    have hy := lwl_get hd
    cases n with
    | zero => exact absurd hn (Nat.not_lt_zero _)
    | succ n =>
      have ih2 := fun (s2 : (List dWrite)) => ih (i + 1) s2 n hd2 (Nat.lt_of_succ_lt_succ hn)
      simp only [loopK, laws_toWriteS_b0, laws_toWriteS_w0, hlt, hz, decide_true, cond_true, and_self, if_true, hy, hw, hnn, Sum.elim_inl, Sum.elim_inr, ih2]

theorem laws_toWriteS_lz0 {u0 : (List dWrite)} (h0 : u0.length < 9223372036854775807) {K : ((List dWrite) × Int × (List dWrite)) → Option Res} {s2 : (List dWrite)} : loopK laws_toWriteS_b0 Fuel (u0, (0 : Int), s2) K = laws_toWriteS_w0 u0 u0 s2 0 (fun z => K (u0, z.1, z.2)) :=
  laws_toWriteS_lw0 h0 u0 0 s2 Fuel rfl (lwl_fuel h0)

def laws_toWriteS_t (a0 : (List dWrite)) (k : (List dWrite) → Option Res) : Option Res :=
  if 0 ≤ (a0.length : Int) ∧ (a0.length : Int) ≤ (a0.length : Int) ∧ (a0.length : Int) ≤ (VE.maxLen : Int) then
    laws_toWriteS_w0 a0 a0 (List.replicate (a0.length : Int).toNat (Ty.zero tWrite)) 0 (fun z27 =>
      k z27.2)
  else none

theorem laws_toWriteS_r {a0 : (List dWrite)} (h0 : a0.length < 9223372036854775807) {k : (List dWrite) → Option Res} : laws_toWriteS_k a0 k = laws_toWriteS_t a0 k := by
  rw [laws_toWriteS_e]
  simp only [laws_toWriteS_d, laws_toWriteS_t, (laws_toWriteS_lz0 h0), Sum.elim_inl, Sum.elim_inr]

def spec_KeyOk_w0 (u0 : ByteArray) (u1 : Bool) : List Int → Nat → (((Bool × Int) ⊕ Int) → Option Res) → Option Res
  | [], i, k =>
    k (.inr (i : Int))
  | y :: l, i, k =>
    bif (decide (y < (97 : Int))) then
      k (.inl (false, (i : Int)))
    else
      bif (decide (y > (122 : Int))) then
        k (.inl (false, (i : Int)))
      else
        spec_KeyOk_w0 u0 u1 l (i + 1) k

theorem spec_KeyOk_lw0 {u0 : ByteArray} {u1 : Bool} (h0 : u0.size < 9223372036854775807) {K : ((ByteArray × Bool × Int) ⊕ (ByteArray × Bool × Int)) → Option Res} : ∀ (l : List Int) (i : Nat)  (n : Nat), (intsOf u0).drop i = l → l.length < n → loopK spec_KeyOk_b0 n (u0, u1, (i : Int)) K = spec_KeyOk_w0 u0 u1 l  i (Sum.elim (fun z => K (.inl (u0, z.1, z.2))) (fun z => K (.inr (u0, u1, z)))) := by
  intro l
  induction l with
  | nil =>
    intro i  n hd hn
    have hge := lws_nil hd
    cases n with
    | zero => exact absurd hn (Nat.not_lt_zero _)
    | succ n => simp only [loopK, spec_KeyOk_b0, spec_KeyOk_w0, hge, decide_false, cond_false, Sum.elim_inr, Sum.elim_inl]
  | cons y l ih =>
    intro i  n hd hn
    obtain ⟨hlt, hz, hd2, hw, hnn⟩ := lws_cons hd h0
    have hy := lws_get hd
    cases n with
    | zero => exact absurd hn (Nat.not_lt_zero _)
    | succ n =>
      have ih2 := ih (i + 1)  n hd2 (Nat.lt_of_succ_lt_succ hn)
      simp only [loopK, spec_KeyOk_b0, spec_KeyOk_w0, hlt, hz, decide_true, cond_true, and_self, if_true, hy, hw, hnn, Sum.elim_inl, Sum.elim_inr, ih2]

theorem spec_KeyOk_lz0 {u0 : ByteArray} {u1 : Bool} (h0 : u0.size < 9223372036854775807) {K : ((ByteArray × Bool × Int) ⊕ (ByteArray × Bool × Int)) → Option Res}  : loopK spec_KeyOk_b0 Fuel (u0, u1, (0 : Int)) K = spec_KeyOk_w0 u0 u1 (intsOf u0)  0 (Sum.elim (fun z => K (.inl (u0, z.1, z.2))) (fun z => K (.inr (u0, u1, z)))) :=
  spec_KeyOk_lw0 h0 (intsOf u0) 0  Fuel rfl (lws_fuel h0)

def spec_KeyOk_t (a0 : ByteArray) (k : Bool → Option Res) : Option Res :=
  spec_KeyOk_w0 a0 false (intsOf a0)  0 (Sum.elim (fun z27 =>
    k z27.1) (fun _ =>
    spec_l01In_k (a0.size : Int) (1 : Int) (3 : Int) (fun y29 =>
      k y29)))

theorem spec_KeyOk_r {a0 : ByteArray} (h0 : a0.size < 9223372036854775807) {k : Bool → Option Res} : spec_KeyOk_k a0 k = spec_KeyOk_t a0 k := by
  rw [spec_KeyOk_e]
  simp only [spec_KeyOk_d, spec_KeyOk_t, (spec_KeyOk_lz0 h0), Sum.elim_inl, Sum.elim_inr]

def spec_WritesOk_w0 (u0 : (List dWrite)) (u1 : Bool) : List dWrite → Nat → (((Bool × Int) ⊕ Int) → Option Res) → Option Res
  | [], i, k =>
    k (.inr (i : Int))
  | y :: l, i, k =>
    spec_WriteOk_k y (fun y1 =>
      bif (!y1) then
        k (.inl (false, (i : Int)))
      else
        bif (decide ((i : Int) > (0 : Int))) then
          if 0 ≤ (IntKind.wrap .i64 ((i : Int) - (1 : Int))) ∧ (IntKind.wrap .i64 ((i : Int) - (1 : Int))) < (u0.length : Int) then
            bif (!(strLess ((rd (Ty.zero tWrite) u0 (IntKind.wrap .i64 ((i : Int) - (1 : Int)))).1) (y.1))) then
              k (.inl (false, (i : Int)))
            else
              spec_WritesOk_w0 u0 u1 l (i + 1) k
          else none
        else
          spec_WritesOk_w0 u0 u1 l (i + 1) k)

theorem spec_WritesOk_lw0 {u0 : (List dWrite)} {u1 : Bool} (h0 : u0.length < 9223372036854775807) {K : (((List dWrite) × Bool × Int) ⊕ ((List dWrite) × Bool × Int)) → Option Res} : ∀ (l : List dWrite) (i : Nat)  (n : Nat), u0.drop i = l → l.length < n → loopK spec_WritesOk_b0 n (u0, u1, (i : Int)) K = spec_WritesOk_w0 u0 u1 l  i (Sum.elim (fun z => K (.inl (u0, z.1, z.2))) (fun z => K (.inr (u0, u1, z)))) := by
  intro l
  induction l with
  | nil =>
    intro i  n hd hn
    have hge := lwl_nil hd
    cases n with
    | zero => exact absurd hn (Nat.not_lt_zero _)
    | succ n => simp only [loopK, spec_WritesOk_b0, spec_WritesOk_w0, hge, decide_false, cond_false, Sum.elim_inr, Sum.elim_inl]
  | cons y l ih =>
    intro i  n hd hn
    obtain ⟨hlt, hz, hd2, hw, hnn⟩ := lwl_cons hd h0
    have hy := lwl_get hd
    cases n with
    | zero => exact absurd hn (Nat.not_lt_zero _)
    | succ n =>
      have ih2 := ih (i + 1)  n hd2 (Nat.lt_of_succ_lt_succ hn)
      simp only [loopK, spec_WritesOk_b0, spec_WritesOk_w0, hlt, hz, decide_true, cond_true, and_self, if_true, hy, hw, hnn, Sum.elim_inl, Sum.elim_inr, ih2]

theorem spec_WritesOk_lz0 {u0 : (List dWrite)} {u1 : Bool} (h0 : u0.length < 9223372036854775807) {K : (((List dWrite) × Bool × Int) ⊕ ((List dWrite) × Bool × Int)) → Option Res}  : loopK spec_WritesOk_b0 Fuel (u0, u1, (0 : Int)) K = spec_WritesOk_w0 u0 u1 u0  0 (Sum.elim (fun z => K (.inl (u0, z.1, z.2))) (fun z => K (.inr (u0, u1, z)))) :=
  spec_WritesOk_lw0 h0 u0 0  Fuel rfl (lwl_fuel h0)

def spec_WritesOk_t (a0 : (List dWrite)) (k : Bool → Option Res) : Option Res :=
  spec_WritesOk_w0 a0 false a0  0 (Sum.elim (fun z27 =>
    k z27.1) (fun _ =>
    k (decide ((a0.length : Int) ≤ (8 : Int)))))

theorem spec_WritesOk_r {a0 : (List dWrite)} (h0 : a0.length < 9223372036854775807) {k : Bool → Option Res} : spec_WritesOk_k a0 k = spec_WritesOk_t a0 k := by
  rw [spec_WritesOk_e]
  simp only [spec_WritesOk_d, spec_WritesOk_t, (spec_WritesOk_lz0 h0), Sum.elim_inl, Sum.elim_inr]

def spec_TxnOk_wj5000012 (u0 : Bool) (u1 : Int) (u2 : Int) (u3 : Int) (u4 : Int) (u5 : (List dRange)) (u6 : (List dWrite)) (u7 : Bool) (u8 : ByteArray) (k : Bool → Option Res) : Option Res :=
    bif (u2 != (1 : Int)) then
      k true
    else
      k (!u7)

theorem spec_TxnOk_wz5000012 {u0 : Bool} {u1 : Int} {u2 : Int} {u3 : Int} {u4 : Int} {u5 : (List dRange)} {u6 : (List dWrite)} {u7 : Bool} {u8 : ByteArray}  {K : (Bool × Int × Int × Int × Int × (List dRange) × (List dWrite) × Bool × ByteArray) → Option Res} : spec_TxnOk_j5000012 (u0, u1, u2, u3, u4, u5, u6, u7, u8) K = spec_TxnOk_wj5000012 u0 u1 u2 u3 u4 u5 u6 u7 u8 (fun z => K (z, u1, u2, u3, u4, u5, u6, u7, u8)) := by
  simp only [spec_TxnOk_j5000012, spec_TxnOk_wj5000012, Sum.elim_inl, Sum.elim_inr]

def spec_TxnOk_wj5000010 (u0 : Bool) (u1 : Int) (u2 : Int) (u3 : Int) (u4 : Int) (u5 : (List dRange)) (u6 : (List dWrite)) (u7 : Bool) (u8 : ByteArray) (k : Bool → Option Res) : Option Res :=
    bif (u2 == (2 : Int)) then
      spec_KeyOk_k u8 (fun y1 =>
        bif (!y1) then
          k false
        else
          bif (u2 != (2 : Int)) then
            bif (!(strEq u8 (⟨#[]⟩ : ByteArray))) then
              k false
            else
              spec_TxnOk_wj5000012 u0 u1 u2 u3 u4 u5 u6 u7 u8 (fun z2 =>
                k z2)
          else
            spec_TxnOk_wj5000012 u0 u1 u2 u3 u4 u5 u6 u7 u8 (fun z3 =>
              k z3))
    else
      bif (u2 != (2 : Int)) then
        bif (!(strEq u8 (⟨#[]⟩ : ByteArray))) then
          k false
        else
          spec_TxnOk_wj5000012 u0 u1 u2 u3 u4 u5 u6 u7 u8 (fun z4 =>
            k z4)
      else
        spec_TxnOk_wj5000012 u0 u1 u2 u3 u4 u5 u6 u7 u8 (fun z5 =>
          k z5)

theorem spec_TxnOk_wz5000010 {u0 : Bool} {u1 : Int} {u2 : Int} {u3 : Int} {u4 : Int} {u5 : (List dRange)} {u6 : (List dWrite)} {u7 : Bool} {u8 : ByteArray}  {K : (Bool × Int × Int × Int × Int × (List dRange) × (List dWrite) × Bool × ByteArray) → Option Res} : spec_TxnOk_j5000010 (u0, u1, u2, u3, u4, u5, u6, u7, u8) K = spec_TxnOk_wj5000010 u0 u1 u2 u3 u4 u5 u6 u7 u8 (fun z => K (z, u1, u2, u3, u4, u5, u6, u7, u8)) := by
  simp only [spec_TxnOk_j5000010, spec_TxnOk_wj5000010, spec_TxnOk_wz5000012, Sum.elim_inl, Sum.elim_inr]

def spec_TxnOk_w0 (u0 : Bool) (u2 : Int) (u3 : Int) (u4 : Int) (u5 : Int) (u6 : (List dRange)) (u7 : (List dWrite)) (u8 : Bool) (u9 : ByteArray) : List dRange → Nat → (((Bool × Int) ⊕ Int) → Option Res) → Option Res
  | [], i, k =>
    k (.inr (i : Int))
  | y :: l, i, k =>
    spec_RangeOk_k y (fun y1 =>
      bif (!y1) then
        k (.inl (false, (i : Int)))
      else
        spec_TxnOk_w0 u0 u2 u3 u4 u5 u6 u7 u8 u9 l (i + 1) k)

theorem spec_TxnOk_lw0 {u0 : Bool} {u2 : Int} {u3 : Int} {u4 : Int} {u5 : Int} {u6 : (List dRange)} {u7 : (List dWrite)} {u8 : Bool} {u9 : ByteArray} (h0 : u6.length < 9223372036854775807) {K : ((Bool × Int × Int × Int × Int × Int × (List dRange) × (List dWrite) × Bool × ByteArray) ⊕ (Bool × Int × Int × Int × Int × Int × (List dRange) × (List dWrite) × Bool × ByteArray)) → Option Res} : ∀ (l : List dRange) (i : Nat)  (n : Nat), u6.drop i = l → l.length < n → loopK spec_TxnOk_b0 n (u0, (i : Int), u2, u3, u4, u5, u6, u7, u8, u9) K = spec_TxnOk_w0 u0 u2 u3 u4 u5 u6 u7 u8 u9 l  i (Sum.elim (fun z => K (.inl (z.1, z.2, u2, u3, u4, u5, u6, u7, u8, u9))) (fun z => K (.inr (u0, z, u2, u3, u4, u5, u6, u7, u8, u9)))) := by
  intro l
  induction l with
  | nil =>
    intro i  n hd hn
    have hge := lwl_nil hd
    cases n with
    | zero => exact absurd hn (Nat.not_lt_zero _)
    | succ n => simp only [loopK, spec_TxnOk_b0, spec_TxnOk_w0, hge, decide_false, cond_false, Sum.elim_inr, Sum.elim_inl]
  | cons y l ih =>
    intro i  n hd hn
    obtain ⟨hlt, hz, hd2, hw, hnn⟩ := lwl_cons hd h0
    have hy := lwl_get hd
    cases n with
    | zero => exact absurd hn (Nat.not_lt_zero _)
    | succ n =>
      have ih2 := ih (i + 1)  n hd2 (Nat.lt_of_succ_lt_succ hn)
      simp only [loopK, spec_TxnOk_b0, spec_TxnOk_w0, hlt, hz, decide_true, cond_true, and_self, if_true, hy, hw, hnn, Sum.elim_inl, Sum.elim_inr, ih2]

theorem spec_TxnOk_lz0 {u0 : Bool} {u2 : Int} {u3 : Int} {u4 : Int} {u5 : Int} {u6 : (List dRange)} {u7 : (List dWrite)} {u8 : Bool} {u9 : ByteArray} (h0 : u6.length < 9223372036854775807) {K : ((Bool × Int × Int × Int × Int × Int × (List dRange) × (List dWrite) × Bool × ByteArray) ⊕ (Bool × Int × Int × Int × Int × Int × (List dRange) × (List dWrite) × Bool × ByteArray)) → Option Res}  : loopK spec_TxnOk_b0 Fuel (u0, (0 : Int), u2, u3, u4, u5, u6, u7, u8, u9) K = spec_TxnOk_w0 u0 u2 u3 u4 u5 u6 u7 u8 u9 u6  0 (Sum.elim (fun z => K (.inl (z.1, z.2, u2, u3, u4, u5, u6, u7, u8, u9))) (fun z => K (.inr (u0, z, u2, u3, u4, u5, u6, u7, u8, u9)))) :=
  spec_TxnOk_lw0 h0 u6 0  Fuel rfl (lwl_fuel h0)

def spec_TxnOk_wj5000003 (u0 : Bool) (u1 : Int) (u2 : Int) (u3 : Int) (u4 : Int) (u5 : (List dRange)) (u6 : (List dWrite)) (u7 : Bool) (u8 : ByteArray) (k : Bool → Option Res) : Option Res :=
    spec_TxnOk_w0 u0 u1 u2 u3 u4 u5 u6 u7 u8 u5  0 (Sum.elim (fun z1 =>
      k z1.1) (fun _ =>
      bif (u2 == (3 : Int)) then
        spec_l01In_k u4 (IntKind.wrap .i64 (u3 + (1 : Int))) (9999 : Int) (fun y3 =>
          bif (!y3) then
            k false
          else
            bif (u2 != (3 : Int)) then
              bif (u4 != (0 : Int)) then
                k false
              else
                spec_TxnOk_wj5000010 u0 u1 u2 u3 u4 u5 u6 u7 u8 (fun z4 =>
                  k z4)
            else
              spec_TxnOk_wj5000010 u0 u1 u2 u3 u4 u5 u6 u7 u8 (fun z5 =>
                k z5))
      else
        bif (u2 != (3 : Int)) then
          bif (u4 != (0 : Int)) then
            k false
          else
            spec_TxnOk_wj5000010 u0 u1 u2 u3 u4 u5 u6 u7 u8 (fun z6 =>
              k z6)
        else
          spec_TxnOk_wj5000010 u0 u1 u2 u3 u4 u5 u6 u7 u8 (fun z7 =>
            k z7)))

theorem spec_TxnOk_wz5000003 {u0 : Bool} {u1 : Int} {u2 : Int} {u3 : Int} {u4 : Int} {u5 : (List dRange)} {u6 : (List dWrite)} {u7 : Bool} {u8 : ByteArray} (h0 : u5.length < 9223372036854775807) {K : (Bool × Int × Int × Int × Int × (List dRange) × (List dWrite) × Bool × ByteArray) → Option Res} : spec_TxnOk_j5000003 (u0, u1, u2, u3, u4, u5, u6, u7, u8) K = spec_TxnOk_wj5000003 u0 u1 u2 u3 u4 u5 u6 u7 u8 (fun z => K (z, u1, u2, u3, u4, u5, u6, u7, u8)) := by
  simp only [spec_TxnOk_j5000003, spec_TxnOk_wj5000003, spec_TxnOk_wz5000010, (spec_TxnOk_lz0 h0), Sum.elim_inl, Sum.elim_inr]

def spec_TxnOk_t (a0 : dTxn) (k : Bool → Option Res) : Option Res :=
  spec_l01In_k a0.1 (1 : Int) (9999 : Int) (fun y27 =>
    bif (!y27) then
      k false
    else
      spec_l01In_k a0.2.1 (1 : Int) (3 : Int) (fun y28 =>
        bif (!y28) then
          k false
        else
          spec_l01In_k a0.2.2.1 (0 : Int) (9999 : Int) (fun y29 =>
            bif (!y29) then
              k false
            else
              bif (decide ((a0.2.2.2.2.1.length : Int) > (8 : Int))) then
                k false
              else
                spec_WritesOk_k a0.2.2.2.2.2.1 (fun y30 =>
                  bif (!y30) then
                    k false
                  else
                    spec_TxnOk_wj5000003 false a0.1 a0.2.1 a0.2.2.1 a0.2.2.2.1 a0.2.2.2.2.1 a0.2.2.2.2.2.1 a0.2.2.2.2.2.2.1 a0.2.2.2.2.2.2.2 (fun z31 =>
                      k z31)))))

theorem spec_TxnOk_r {a0 : dTxn} (h0 : a0.2.2.2.2.1.length < 9223372036854775807) {k : Bool → Option Res} : spec_TxnOk_k a0 k = spec_TxnOk_t a0 k := by
  rw [spec_TxnOk_e]
  simp only [spec_TxnOk_d, spec_TxnOk_t, (spec_TxnOk_wz5000003 h0), Sum.elim_inl, Sum.elim_inr]

def spec_ReadRange_w0 (u0 : Bool) (u2 : Int) (u3 : Int) (u4 : Int) (u5 : Int) (u6 : (List dRange)) (u7 : (List dWrite)) (u8 : Bool) (u9 : ByteArray) (u10 : ByteArray) (u11 : ByteArray) (u12 : Int) (u13 : Int) (u14 : Int) (u15 : Int) (u16 : Bool) (u17 : ByteArray) (u18 : Int) (u19 : Int) (u20 : Int) (u21 : Int) (u22 : Bool) (u23 : ByteArray) (u24 : (List dRange)) (u25 : (List dWrite)) (u26 : (List dRange)) (u27 : (List dWrite)) : List dRange → Nat → ((Int ⊕ (Bool × Int)) → Option Res) → Option Res
  | [], i, k =>
    k (.inl (i : Int))
  | y :: l, i, k =>
    bif (Ty.eqB tRange y (u10, u11)) then
      k (.inr (true, (i : Int)))
    else
      spec_ReadRange_w0 u0 u2 u3 u4 u5 u6 u7 u8 u9 u10 u11 u12 u13 u14 u15 u16 u17 u18 u19 u20 u21 u22 u23 u24 u25 u26 u27 l (i + 1) k

theorem spec_ReadRange_lw0 {u0 : Bool} {u2 : Int} {u3 : Int} {u4 : Int} {u5 : Int} {u6 : (List dRange)} {u7 : (List dWrite)} {u8 : Bool} {u9 : ByteArray} {u10 : ByteArray} {u11 : ByteArray} {u12 : Int} {u13 : Int} {u14 : Int} {u15 : Int} {u16 : Bool} {u17 : ByteArray} {u18 : Int} {u19 : Int} {u20 : Int} {u21 : Int} {u22 : Bool} {u23 : ByteArray} {u24 : (List dRange)} {u25 : (List dWrite)} {u26 : (List dRange)} {u27 : (List dWrite)} (h0 : u6.length < 9223372036854775807) {K : ((Bool × Int × Int × Int × Int × Int × (List dRange) × (List dWrite) × Bool × ByteArray × ByteArray × ByteArray × Int × Int × Int × Int × Bool × ByteArray × Int × Int × Int × Int × Bool × ByteArray × (List dRange) × (List dWrite) × (List dRange) × (List dWrite)) ⊕ (Bool × Int × Int × Int × Int × Int × (List dRange) × (List dWrite) × Bool × ByteArray × ByteArray × ByteArray × Int × Int × Int × Int × Bool × ByteArray × Int × Int × Int × Int × Bool × ByteArray × (List dRange) × (List dWrite))) → Option Res} : ∀ (l : List dRange) (i : Nat)  (n : Nat), u6.drop i = l → l.length < n → loopK spec_ReadRange_b0 n (u0, (i : Int), u2, u3, u4, u5, u6, u7, u8, u9, u10, u11, u12, u13, u14, u15, u16, u17, u18, u19, u20, u21, u22, u23, u24, u25, u26, u27) K = spec_ReadRange_w0 u0 u2 u3 u4 u5 u6 u7 u8 u9 u10 u11 u12 u13 u14 u15 u16 u17 u18 u19 u20 u21 u22 u23 u24 u25 u26 u27 l  i (Sum.elim (fun z => K (.inl (u0, z, u2, u3, u4, u5, u6, u7, u8, u9, u10, u11, u12, u13, u14, u15, u16, u17, u18, u19, u20, u21, u22, u23, u24, u25, u26, u27))) (fun z => K (.inr (z.1, z.2, u2, u3, u4, u5, u6, u7, u8, u9, u10, u11, u18, u19, u20, u21, u22, u23, u18, u19, u20, u21, u22, u23, u26, u27)))) := by
  intro l
  induction l with
  | nil =>
    intro i  n hd hn
    have hge := lwl_nil hd
    cases n with
    | zero => exact absurd hn (Nat.not_lt_zero _)
    | succ n => simp only [loopK, spec_ReadRange_b0, spec_ReadRange_w0, hge, decide_false, cond_false, Sum.elim_inr, Sum.elim_inl]
  | cons y l ih =>
    intro i  n hd hn
    obtain ⟨hlt, hz, hd2, hw, hnn⟩ := lwl_cons hd h0
    have hy := lwl_get hd
    cases n with
    | zero => exact absurd hn (Nat.not_lt_zero _)
    | succ n =>
      have ih2 := ih (i + 1)  n hd2 (Nat.lt_of_succ_lt_succ hn)
      simp only [loopK, spec_ReadRange_b0, spec_ReadRange_w0, hlt, hz, decide_true, cond_true, and_self, if_true, hy, hw, hnn, Sum.elim_inl, Sum.elim_inr, ih2]

theorem spec_ReadRange_lz0 {u0 : Bool} {u2 : Int} {u3 : Int} {u4 : Int} {u5 : Int} {u6 : (List dRange)} {u7 : (List dWrite)} {u8 : Bool} {u9 : ByteArray} {u10 : ByteArray} {u11 : ByteArray} {u12 : Int} {u13 : Int} {u14 : Int} {u15 : Int} {u16 : Bool} {u17 : ByteArray} {u18 : Int} {u19 : Int} {u20 : Int} {u21 : Int} {u22 : Bool} {u23 : ByteArray} {u24 : (List dRange)} {u25 : (List dWrite)} {u26 : (List dRange)} {u27 : (List dWrite)} (h0 : u6.length < 9223372036854775807) {K : ((Bool × Int × Int × Int × Int × Int × (List dRange) × (List dWrite) × Bool × ByteArray × ByteArray × ByteArray × Int × Int × Int × Int × Bool × ByteArray × Int × Int × Int × Int × Bool × ByteArray × (List dRange) × (List dWrite) × (List dRange) × (List dWrite)) ⊕ (Bool × Int × Int × Int × Int × Int × (List dRange) × (List dWrite) × Bool × ByteArray × ByteArray × ByteArray × Int × Int × Int × Int × Bool × ByteArray × Int × Int × Int × Int × Bool × ByteArray × (List dRange) × (List dWrite))) → Option Res}  : loopK spec_ReadRange_b0 Fuel (u0, (0 : Int), u2, u3, u4, u5, u6, u7, u8, u9, u10, u11, u12, u13, u14, u15, u16, u17, u18, u19, u20, u21, u22, u23, u24, u25, u26, u27) K = spec_ReadRange_w0 u0 u2 u3 u4 u5 u6 u7 u8 u9 u10 u11 u12 u13 u14 u15 u16 u17 u18 u19 u20 u21 u22 u23 u24 u25 u26 u27 u6  0 (Sum.elim (fun z => K (.inl (u0, z, u2, u3, u4, u5, u6, u7, u8, u9, u10, u11, u12, u13, u14, u15, u16, u17, u18, u19, u20, u21, u22, u23, u24, u25, u26, u27))) (fun z => K (.inr (z.1, z.2, u2, u3, u4, u5, u6, u7, u8, u9, u10, u11, u18, u19, u20, u21, u22, u23, u18, u19, u20, u21, u22, u23, u26, u27)))) :=
  spec_ReadRange_lw0 h0 u6 0  Fuel rfl (lwl_fuel h0)

def spec_ReadRange_wj5000004 (u0 : Bool) (u1 : Int) (u2 : Int) (u3 : Int) (u4 : Int) (u5 : (List dRange)) (u6 : (List dWrite)) (u7 : Bool) (u8 : ByteArray) (u9 : ByteArray) (u10 : ByteArray) (u11 : Int) (u12 : Int) (u13 : Int) (u14 : Int) (u15 : Bool) (u16 : ByteArray) (u17 : Int) (u18 : Int) (u19 : Int) (u20 : Int) (u21 : Bool) (u22 : ByteArray) (u23 : (List dRange)) (u24 : (List dWrite)) (u25 : (List dRange)) (u26 : (List dWrite)) (k : (Bool × (List dRange)) → Option Res) : Option Res :=
    spec_ReadRange_w0 u0 u1 u2 u3 u4 u5 u6 u7 u8 u9 u10 u11 u12 u13 u14 u15 u16 u17 u18 u19 u20 u21 u22 u23 u24 u25 u26 u5  0 (Sum.elim (fun _ =>
      bif (decide ((u5.length : Int) ≥ (8 : Int))) then
        k (false, u25)
      else
        if u25.length + [(u9, u10)].length ≤ VE.maxLen then
          k (true, (u25 ++ [(u9, u10)]))
        else none) (fun z2 =>
      k (z2.1, u25)))

theorem spec_ReadRange_wz5000004 {u0 : Bool} {u1 : Int} {u2 : Int} {u3 : Int} {u4 : Int} {u5 : (List dRange)} {u6 : (List dWrite)} {u7 : Bool} {u8 : ByteArray} {u9 : ByteArray} {u10 : ByteArray} {u11 : Int} {u12 : Int} {u13 : Int} {u14 : Int} {u15 : Bool} {u16 : ByteArray} {u17 : Int} {u18 : Int} {u19 : Int} {u20 : Int} {u21 : Bool} {u22 : ByteArray} {u23 : (List dRange)} {u24 : (List dWrite)} {u25 : (List dRange)} {u26 : (List dWrite)} (h0 : u5.length < 9223372036854775807) {K : (Bool × Int × Int × Int × Int × (List dRange) × (List dWrite) × Bool × ByteArray × ByteArray × ByteArray × Int × Int × Int × Int × Bool × ByteArray × Int × Int × Int × Int × Bool × ByteArray × (List dRange) × (List dWrite)) → Option Res} : spec_ReadRange_j5000004 (u0, u1, u2, u3, u4, u5, u6, u7, u8, u9, u10, u11, u12, u13, u14, u15, u16, u17, u18, u19, u20, u21, u22, u23, u24, u25, u26) K = spec_ReadRange_wj5000004 u0 u1 u2 u3 u4 u5 u6 u7 u8 u9 u10 u11 u12 u13 u14 u15 u16 u17 u18 u19 u20 u21 u22 u23 u24 u25 u26 (fun z => K (z.1, u1, u2, u3, u4, u5, u6, u7, u8, u9, u10, u17, u18, u19, u20, u21, u22, u17, u18, u19, u20, u21, u22, z.2, u26)) := by
  simp only [spec_ReadRange_j5000004, spec_ReadRange_wj5000004, (spec_ReadRange_lz0 h0), Sum.elim_inl, Sum.elim_inr]

def spec_ReadRange_t (a0 : dTxn) (a1 : dRange) (k : (Int × Int × Int × Int × Bool × ByteArray × Bool × (List dRange) × (List dWrite)) → Option Res) : Option Res :=
  spec_l07Copy_k a0 (fun y27 =>
    spec_TxnOk_k a0 (fun y28 =>
      bif (!y28) then
        k (y27.1, y27.2.1, y27.2.2.1, y27.2.2.2.1, y27.2.2.2.2.1, y27.2.2.2.2.2.1, false, y27.2.2.2.2.2.2.1, y27.2.2.2.2.2.2.2)
      else
        bif (a0.2.1 != (1 : Int)) then
          k (y27.1, y27.2.1, y27.2.2.1, y27.2.2.2.1, y27.2.2.2.2.1, y27.2.2.2.2.2.1, false, y27.2.2.2.2.2.2.1, y27.2.2.2.2.2.2.2)
        else
          spec_RangeOk_k a1 (fun y29 =>
            bif (!y29) then
              k (y27.1, y27.2.1, y27.2.2.1, y27.2.2.2.1, y27.2.2.2.2.1, y27.2.2.2.2.2.1, false, y27.2.2.2.2.2.2.1, y27.2.2.2.2.2.2.2)
            else
              spec_ReadRange_wj5000004 false a0.1 a0.2.1 a0.2.2.1 a0.2.2.2.1 a0.2.2.2.2.1 a0.2.2.2.2.2.1 a0.2.2.2.2.2.2.1 a0.2.2.2.2.2.2.2 a1.1 a1.2 (0 : Int) (0 : Int) (0 : Int) (0 : Int) false (⟨#[]⟩ : ByteArray) y27.1 y27.2.1 y27.2.2.1 y27.2.2.2.1 y27.2.2.2.2.1 y27.2.2.2.2.2.1 ([] : List dRange) ([] : List dWrite) y27.2.2.2.2.2.2.1 y27.2.2.2.2.2.2.2 (fun z30 =>
                k (y27.1, y27.2.1, y27.2.2.1, y27.2.2.2.1, y27.2.2.2.2.1, y27.2.2.2.2.2.1, z30.1, z30.2, y27.2.2.2.2.2.2.2)))))

theorem spec_ReadRange_r {a0 : dTxn} {a1 : dRange} (h0 : a0.2.2.2.2.1.length < 9223372036854775807) {k : (Int × Int × Int × Int × Bool × ByteArray × Bool × (List dRange) × (List dWrite)) → Option Res} : spec_ReadRange_k a0 a1 k = spec_ReadRange_t a0 a1 k := by
  rw [spec_ReadRange_e]
  simp only [spec_ReadRange_d, spec_ReadRange_t, (spec_ReadRange_wz5000004 h0), Sum.elim_inl, Sum.elim_inr]

def impl_KeyOk_w0 (u0 : ByteArray) (u1 : Bool) : List Int → Nat → (((Bool × Int) ⊕ Int) → Option Res) → Option Res
  | [], i, k =>
    k (.inr (i : Int))
  | y :: l, i, k =>
    bif (decide (y < (97 : Int))) then
      k (.inl (false, (i : Int)))
    else
      bif (decide (y > (122 : Int))) then
        k (.inl (false, (i : Int)))
      else
        impl_KeyOk_w0 u0 u1 l (i + 1) k

theorem impl_KeyOk_lw0 {u0 : ByteArray} {u1 : Bool} (h0 : u0.size < 9223372036854775807) {K : ((ByteArray × Bool × Int) ⊕ (ByteArray × Bool × Int)) → Option Res} : ∀ (l : List Int) (i : Nat)  (n : Nat), (intsOf u0).drop i = l → l.length < n → loopK impl_KeyOk_b0 n (u0, u1, (i : Int)) K = impl_KeyOk_w0 u0 u1 l  i (Sum.elim (fun z => K (.inl (u0, z.1, z.2))) (fun z => K (.inr (u0, u1, z)))) := by
  intro l
  induction l with
  | nil =>
    intro i  n hd hn
    have hge := lws_nil hd
    cases n with
    | zero => exact absurd hn (Nat.not_lt_zero _)
    | succ n => simp only [loopK, impl_KeyOk_b0, impl_KeyOk_w0, hge, decide_false, cond_false, Sum.elim_inr, Sum.elim_inl]
  | cons y l ih =>
    intro i  n hd hn
    obtain ⟨hlt, hz, hd2, hw, hnn⟩ := lws_cons hd h0
    have hy := lws_get hd
    cases n with
    | zero => exact absurd hn (Nat.not_lt_zero _)
    | succ n =>
      have ih2 := ih (i + 1)  n hd2 (Nat.lt_of_succ_lt_succ hn)
      simp only [loopK, impl_KeyOk_b0, impl_KeyOk_w0, hlt, hz, decide_true, cond_true, and_self, if_true, hy, hw, hnn, Sum.elim_inl, Sum.elim_inr, ih2]

theorem impl_KeyOk_lz0 {u0 : ByteArray} {u1 : Bool} (h0 : u0.size < 9223372036854775807) {K : ((ByteArray × Bool × Int) ⊕ (ByteArray × Bool × Int)) → Option Res}  : loopK impl_KeyOk_b0 Fuel (u0, u1, (0 : Int)) K = impl_KeyOk_w0 u0 u1 (intsOf u0)  0 (Sum.elim (fun z => K (.inl (u0, z.1, z.2))) (fun z => K (.inr (u0, u1, z)))) :=
  impl_KeyOk_lw0 h0 (intsOf u0) 0  Fuel rfl (lws_fuel h0)

def impl_KeyOk_t (a0 : ByteArray) (k : Bool → Option Res) : Option Res :=
  impl_KeyOk_w0 a0 false (intsOf a0)  0 (Sum.elim (fun z27 =>
    k z27.1) (fun _ =>
    impl_within_k (a0.size : Int) (1 : Int) (3 : Int) (fun y29 =>
      k y29)))

theorem impl_KeyOk_r {a0 : ByteArray} (h0 : a0.size < 9223372036854775807) {k : Bool → Option Res} : impl_KeyOk_k a0 k = impl_KeyOk_t a0 k := by
  rw [impl_KeyOk_e]
  simp only [impl_KeyOk_d, impl_KeyOk_t, (impl_KeyOk_lz0 h0), Sum.elim_inl, Sum.elim_inr]

def impl_WritesOk_w0 (u0 : (List dWrite)) (u1 : Bool) (u2 : (List dWrite)) : List dWrite → Nat → (((Bool × Int) ⊕ Int) → Option Res) → Option Res
  | [], i, k =>
    k (.inr (i : Int))
  | y :: l, i, k =>
    impl_WriteOk_k y (fun y1 =>
      bif (!y1) then
        k (.inl (false, (i : Int)))
      else
        bif (decide ((i : Int) > (0 : Int))) then
          if 0 ≤ (IntKind.wrap .i64 ((i : Int) - (1 : Int))) ∧ (IntKind.wrap .i64 ((i : Int) - (1 : Int))) < (u0.length : Int) then
            bif (!(strLess ((rd (Ty.zero tWrite) u0 (IntKind.wrap .i64 ((i : Int) - (1 : Int)))).1) (y.1))) then
              k (.inl (false, (i : Int)))
            else
              impl_WritesOk_w0 u0 u1 u2 l (i + 1) k
          else none
        else
          impl_WritesOk_w0 u0 u1 u2 l (i + 1) k)

theorem impl_WritesOk_lw0 {u0 : (List dWrite)} {u1 : Bool} {u2 : (List dWrite)} (h0 : u2.length < 9223372036854775807) {K : (((List dWrite) × Bool × (List dWrite) × Int × Int) ⊕ ((List dWrite) × Bool × (List dWrite) × Int × Int)) → Option Res} : ∀ (l : List dWrite) (i : Nat)  (n : Nat), u2.drop i = l → l.length < n → loopK impl_WritesOk_b0 n (u0, u1, u2, (u2.length : Int), (i : Int)) K = impl_WritesOk_w0 u0 u1 u2 l  i (Sum.elim (fun z => K (.inl (u0, z.1, u2, (u2.length : Int), z.2))) (fun z => K (.inr (u0, u1, u2, (u2.length : Int), z)))) := by
  intro l
  induction l with
  | nil =>
    intro i  n hd hn
    have hge := lwl_nil hd
    cases n with
    | zero => exact absurd hn (Nat.not_lt_zero _)
    | succ n => simp only [loopK, impl_WritesOk_b0, impl_WritesOk_w0, hge, decide_false, cond_false, Sum.elim_inr, Sum.elim_inl]
  | cons y l ih =>
    intro i  n hd hn
    obtain ⟨hlt, hz, hd2, hw, hnn⟩ := lwl_cons hd h0
    have hy := lwl_get hd
    cases n with
    | zero => exact absurd hn (Nat.not_lt_zero _)
    | succ n =>
      have ih2 := ih (i + 1)  n hd2 (Nat.lt_of_succ_lt_succ hn)
      simp only [loopK, impl_WritesOk_b0, impl_WritesOk_w0, hlt, hz, decide_true, cond_true, and_self, if_true, hy, hw, hnn, Sum.elim_inl, Sum.elim_inr, ih2]

theorem impl_WritesOk_lz0 {u0 : (List dWrite)} {u1 : Bool} {u2 : (List dWrite)} (h0 : u2.length < 9223372036854775807) {K : (((List dWrite) × Bool × (List dWrite) × Int × Int) ⊕ ((List dWrite) × Bool × (List dWrite) × Int × Int)) → Option Res}  : loopK impl_WritesOk_b0 Fuel (u0, u1, u2, (u2.length : Int), (0 : Int)) K = impl_WritesOk_w0 u0 u1 u2 u2  0 (Sum.elim (fun z => K (.inl (u0, z.1, u2, (u2.length : Int), z.2))) (fun z => K (.inr (u0, u1, u2, (u2.length : Int), z)))) :=
  impl_WritesOk_lw0 h0 u2 0  Fuel rfl (lwl_fuel h0)

def impl_WritesOk_t (a0 : (List dWrite)) (k : Bool → Option Res) : Option Res :=
  impl_WritesOk_w0 a0 false a0 a0  0 (Sum.elim (fun z27 =>
    k z27.1) (fun _ =>
    k (decide ((a0.length : Int) ≤ (8 : Int)))))

theorem impl_WritesOk_r {a0 : (List dWrite)} (h0 : a0.length < 9223372036854775807) {k : Bool → Option Res} : impl_WritesOk_k a0 k = impl_WritesOk_t a0 k := by
  rw [impl_WritesOk_e]
  simp only [impl_WritesOk_d, impl_WritesOk_t, (impl_WritesOk_lz0 h0), Sum.elim_inl, Sum.elim_inr]

def impl_TxnOk_wj5000011 (u0 : Bool) (u1 : Int) (u2 : Int) (u3 : Int) (u4 : Int) (u5 : (List dRange)) (u6 : (List dWrite)) (u7 : Bool) (u8 : ByteArray) (k : Bool → Option Res) : Option Res :=
    bif (u2 == (2 : Int)) then
      impl_KeyOk_k u8 (fun y1 =>
        bif y1 then
          k true
        else
          bif (u2 != (2 : Int)) then
            k (strEq u8 (⟨#[]⟩ : ByteArray))
          else
            k false)
    else
      bif (u2 != (2 : Int)) then
        k (strEq u8 (⟨#[]⟩ : ByteArray))
      else
        k false

theorem impl_TxnOk_wz5000011 {u0 : Bool} {u1 : Int} {u2 : Int} {u3 : Int} {u4 : Int} {u5 : (List dRange)} {u6 : (List dWrite)} {u7 : Bool} {u8 : ByteArray}  {K : (Bool × Int × Int × Int × Int × (List dRange) × (List dWrite) × Bool × ByteArray) → Option Res} : impl_TxnOk_j5000011 (u0, u1, u2, u3, u4, u5, u6, u7, u8) K = impl_TxnOk_wj5000011 u0 u1 u2 u3 u4 u5 u6 u7 u8 (fun z => K (z, u1, u2, u3, u4, u5, u6, u7, u8)) := by
  simp only [impl_TxnOk_j5000011, impl_TxnOk_wj5000011, Sum.elim_inl, Sum.elim_inr]

def impl_TxnOk_wj5000009 (u0 : Bool) (u1 : Int) (u2 : Int) (u3 : Int) (u4 : Int) (u5 : (List dRange)) (u6 : (List dWrite)) (u7 : Bool) (u8 : ByteArray) (k : Bool → Option Res) : Option Res :=
    bif (u2 == (3 : Int)) then
      impl_within_k u4 (IntKind.wrap .i64 (u3 + (1 : Int))) (9999 : Int) (fun y1 =>
        bif (!y1) then
          k false
        else
          bif (u2 != (3 : Int)) then
            bif (u4 != (0 : Int)) then
              k false
            else
              impl_TxnOk_wj5000011 u0 u1 u2 u3 u4 u5 u6 u7 u8 (fun z2 =>
                k z2)
          else
            impl_TxnOk_wj5000011 u0 u1 u2 u3 u4 u5 u6 u7 u8 (fun z3 =>
              k z3))
    else
      bif (u2 != (3 : Int)) then
        bif (u4 != (0 : Int)) then
          k false
        else
          impl_TxnOk_wj5000011 u0 u1 u2 u3 u4 u5 u6 u7 u8 (fun z4 =>
            k z4)
      else
        impl_TxnOk_wj5000011 u0 u1 u2 u3 u4 u5 u6 u7 u8 (fun z5 =>
          k z5)

theorem impl_TxnOk_wz5000009 {u0 : Bool} {u1 : Int} {u2 : Int} {u3 : Int} {u4 : Int} {u5 : (List dRange)} {u6 : (List dWrite)} {u7 : Bool} {u8 : ByteArray}  {K : (Bool × Int × Int × Int × Int × (List dRange) × (List dWrite) × Bool × ByteArray) → Option Res} : impl_TxnOk_j5000009 (u0, u1, u2, u3, u4, u5, u6, u7, u8) K = impl_TxnOk_wj5000009 u0 u1 u2 u3 u4 u5 u6 u7 u8 (fun z => K (z, u1, u2, u3, u4, u5, u6, u7, u8)) := by
  simp only [impl_TxnOk_j5000009, impl_TxnOk_wj5000009, impl_TxnOk_wz5000011, Sum.elim_inl, Sum.elim_inr]

def impl_TxnOk_w0 (u0 : Bool) (u1 : (List dRange)) (u4 : Int) (u5 : Int) (u6 : Int) (u7 : Int) (u8 : (List dRange)) (u9 : (List dWrite)) (u10 : Bool) (u11 : ByteArray) : List dRange → Nat → (((Bool × Int) ⊕ Int) → Option Res) → Option Res
  | [], i, k =>
    k (.inr (i : Int))
  | y :: l, i, k =>
    impl_RangeOk_k y (fun y1 =>
      bif (!y1) then
        k (.inl (false, (i : Int)))
      else
        impl_TxnOk_w0 u0 u1 u4 u5 u6 u7 u8 u9 u10 u11 l (i + 1) k)

theorem impl_TxnOk_lw0 {u0 : Bool} {u1 : (List dRange)} {u4 : Int} {u5 : Int} {u6 : Int} {u7 : Int} {u8 : (List dRange)} {u9 : (List dWrite)} {u10 : Bool} {u11 : ByteArray} (h0 : u1.length < 9223372036854775807) {K : ((Bool × (List dRange) × Int × Int × Int × Int × Int × Int × (List dRange) × (List dWrite) × Bool × ByteArray) ⊕ (Bool × (List dRange) × Int × Int × Int × Int × Int × Int × (List dRange) × (List dWrite) × Bool × ByteArray)) → Option Res} : ∀ (l : List dRange) (i : Nat)  (n : Nat), u1.drop i = l → l.length < n → loopK impl_TxnOk_b0 n (u0, u1, (u1.length : Int), (i : Int), u4, u5, u6, u7, u8, u9, u10, u11) K = impl_TxnOk_w0 u0 u1 u4 u5 u6 u7 u8 u9 u10 u11 l  i (Sum.elim (fun z => K (.inl (z.1, u1, (u1.length : Int), z.2, u4, u5, u6, u7, u8, u9, u10, u11))) (fun z => K (.inr (u0, u1, (u1.length : Int), z, u4, u5, u6, u7, u8, u9, u10, u11)))) := by
  intro l
  induction l with
  | nil =>
    intro i  n hd hn
    have hge := lwl_nil hd
    cases n with
    | zero => exact absurd hn (Nat.not_lt_zero _)
    | succ n => simp only [loopK, impl_TxnOk_b0, impl_TxnOk_w0, hge, decide_false, cond_false, Sum.elim_inr, Sum.elim_inl]
  | cons y l ih =>
    intro i  n hd hn
    obtain ⟨hlt, hz, hd2, hw, hnn⟩ := lwl_cons hd h0
    have hy := lwl_get hd
    cases n with
    | zero => exact absurd hn (Nat.not_lt_zero _)
    | succ n =>
      have ih2 := ih (i + 1)  n hd2 (Nat.lt_of_succ_lt_succ hn)
      simp only [loopK, impl_TxnOk_b0, impl_TxnOk_w0, hlt, hz, decide_true, cond_true, and_self, if_true, hy, hw, hnn, Sum.elim_inl, Sum.elim_inr, ih2]

theorem impl_TxnOk_lz0 {u0 : Bool} {u1 : (List dRange)} {u4 : Int} {u5 : Int} {u6 : Int} {u7 : Int} {u8 : (List dRange)} {u9 : (List dWrite)} {u10 : Bool} {u11 : ByteArray} (h0 : u1.length < 9223372036854775807) {K : ((Bool × (List dRange) × Int × Int × Int × Int × Int × Int × (List dRange) × (List dWrite) × Bool × ByteArray) ⊕ (Bool × (List dRange) × Int × Int × Int × Int × Int × Int × (List dRange) × (List dWrite) × Bool × ByteArray)) → Option Res}  : loopK impl_TxnOk_b0 Fuel (u0, u1, (u1.length : Int), (0 : Int), u4, u5, u6, u7, u8, u9, u10, u11) K = impl_TxnOk_w0 u0 u1 u4 u5 u6 u7 u8 u9 u10 u11 u1  0 (Sum.elim (fun z => K (.inl (z.1, u1, (u1.length : Int), z.2, u4, u5, u6, u7, u8, u9, u10, u11))) (fun z => K (.inr (u0, u1, (u1.length : Int), z, u4, u5, u6, u7, u8, u9, u10, u11)))) :=
  impl_TxnOk_lw0 h0 u1 0  Fuel rfl (lwl_fuel h0)

def impl_TxnOk_t (a0 : dTxn) (k : Bool → Option Res) : Option Res :=
  impl_TxnOk_w0 false a0.2.2.2.2.1 a0.1 a0.2.1 a0.2.2.1 a0.2.2.2.1 a0.2.2.2.2.1 a0.2.2.2.2.2.1 a0.2.2.2.2.2.2.1 a0.2.2.2.2.2.2.2 a0.2.2.2.2.1  0 (Sum.elim (fun z27 =>
    k z27.1) (fun _ =>
    impl_within_k a0.1 (1 : Int) (9999 : Int) (fun y29 =>
      bif (!y29) then
        k false
      else
        impl_within_k a0.2.1 (1 : Int) (3 : Int) (fun y30 =>
          bif (!y30) then
            k false
          else
            impl_within_k a0.2.2.1 (0 : Int) (9999 : Int) (fun y31 =>
              bif (!y31) then
                k false
              else
                bif (decide ((a0.2.2.2.2.1.length : Int) > (8 : Int))) then
                  k false
                else
                  impl_WritesOk_k a0.2.2.2.2.2.1 (fun y32 =>
                    bif (!y32) then
                      k false
                    else
                      bif a0.2.2.2.2.2.2.1 then
                        bif (a0.2.1 == (1 : Int)) then
                          k false
                        else
                          impl_TxnOk_wj5000009 false a0.1 a0.2.1 a0.2.2.1 a0.2.2.2.1 a0.2.2.2.2.1 a0.2.2.2.2.2.1 a0.2.2.2.2.2.2.1 a0.2.2.2.2.2.2.2 (fun z33 =>
                            k z33)
                      else
                        impl_TxnOk_wj5000009 false a0.1 a0.2.1 a0.2.2.1 a0.2.2.2.1 a0.2.2.2.2.1 a0.2.2.2.2.2.1 a0.2.2.2.2.2.2.1 a0.2.2.2.2.2.2.2 (fun z34 =>
                          k z34)))))))

theorem impl_TxnOk_r {a0 : dTxn} (h0 : a0.2.2.2.2.1.length < 9223372036854775807) {k : Bool → Option Res} : impl_TxnOk_k a0 k = impl_TxnOk_t a0 k := by
  rw [impl_TxnOk_e]
  simp only [impl_TxnOk_d, impl_TxnOk_t, impl_TxnOk_wz5000009, (impl_TxnOk_lz0 h0), Sum.elim_inl, Sum.elim_inr]

def slices_Index_Range_w0 (u0 : (List dRange)) (u1 : Int) (u4 : ByteArray) (u5 : ByteArray) : List dRange → Nat → (((Int × Int) ⊕ Int) → Option Res) → Option Res
  | [], i, k =>
    k (.inr (i : Int))
  | y :: l, i, k =>
    bif (Ty.eqB tRange (u4, u5) y) then
      k (.inl ((i : Int), (i : Int)))
    else
      slices_Index_Range_w0 u0 u1 u4 u5 l (i + 1) k

theorem slices_Index_Range_lw0 {u0 : (List dRange)} {u1 : Int} {u4 : ByteArray} {u5 : ByteArray} (h0 : u0.length < 9223372036854775807) {K : (((List dRange) × Int × Int × Int × ByteArray × ByteArray) ⊕ ((List dRange) × Int × Int × Int × ByteArray × ByteArray)) → Option Res} : ∀ (l : List dRange) (i : Nat)  (n : Nat), u0.drop i = l → l.length < n → loopK slices_Index_Range_b0 n (u0, u1, (u0.length : Int), (i : Int), u4, u5) K = slices_Index_Range_w0 u0 u1 u4 u5 l  i (Sum.elim (fun z => K (.inl (u0, z.1, (u0.length : Int), z.2, u4, u5))) (fun z => K (.inr (u0, u1, (u0.length : Int), z, u4, u5)))) := by
  intro l
  induction l with
  | nil =>
    intro i  n hd hn
    have hge := lwl_nil hd
    cases n with
    | zero => exact absurd hn (Nat.not_lt_zero _)
    | succ n => simp only [loopK, slices_Index_Range_b0, slices_Index_Range_w0, hge, decide_false, cond_false, Sum.elim_inr, Sum.elim_inl]
  | cons y l ih =>
    intro i  n hd hn
    obtain ⟨hlt, hz, hd2, hw, hnn⟩ := lwl_cons hd h0
    have hy := lwl_get hd
    cases n with
    | zero => exact absurd hn (Nat.not_lt_zero _)
    | succ n =>
      have ih2 := ih (i + 1)  n hd2 (Nat.lt_of_succ_lt_succ hn)
      simp only [loopK, slices_Index_Range_b0, slices_Index_Range_w0, hlt, hz, decide_true, cond_true, and_self, if_true, hy, hw, hnn, Sum.elim_inl, Sum.elim_inr, ih2]

theorem slices_Index_Range_lz0 {u0 : (List dRange)} {u1 : Int} {u4 : ByteArray} {u5 : ByteArray} (h0 : u0.length < 9223372036854775807) {K : (((List dRange) × Int × Int × Int × ByteArray × ByteArray) ⊕ ((List dRange) × Int × Int × Int × ByteArray × ByteArray)) → Option Res}  : loopK slices_Index_Range_b0 Fuel (u0, u1, (u0.length : Int), (0 : Int), u4, u5) K = slices_Index_Range_w0 u0 u1 u4 u5 u0  0 (Sum.elim (fun z => K (.inl (u0, z.1, (u0.length : Int), z.2, u4, u5))) (fun z => K (.inr (u0, u1, (u0.length : Int), z, u4, u5)))) :=
  slices_Index_Range_lw0 h0 u0 0  Fuel rfl (lwl_fuel h0)

def slices_Index_Range_t (a0 : (List dRange)) (a1 : dRange) (k : Int → Option Res) : Option Res :=
  slices_Index_Range_w0 a0 (0 : Int) a1.1 a1.2 a0  0 (Sum.elim (fun z27 =>
    k z27.1) (fun _ =>
    k (-1 : Int)))

theorem slices_Index_Range_r {a0 : (List dRange)} {a1 : dRange} (h0 : a0.length < 9223372036854775807) {k : Int → Option Res} : slices_Index_Range_k a0 a1 k = slices_Index_Range_t a0 a1 k := by
  rw [slices_Index_Range_e]
  simp only [slices_Index_Range_d, slices_Index_Range_t, (slices_Index_Range_lz0 h0), Sum.elim_inl, Sum.elim_inr]

def impl_ReadRange_wj5000004 (u0 : Bool) (u1 : Int) (u2 : Int) (u3 : Int) (u4 : Int) (u5 : (List dRange)) (u6 : (List dWrite)) (u7 : Bool) (u8 : ByteArray) (u9 : ByteArray) (u10 : ByteArray) (u11 : Int) (u12 : Int) (u13 : Int) (u14 : Int) (u15 : Bool) (u16 : ByteArray) (u17 : Int) (u18 : Int) (u19 : Int) (u20 : Int) (u21 : Bool) (u22 : ByteArray) (u23 : (List dRange)) (u24 : (List dWrite)) (u25 : (List dRange)) (u26 : (List dWrite)) (k : (Bool × (List dRange)) → Option Res) : Option Res :=
    slices_Contains_Range_k u5 (u9, u10) (fun y1 =>
      bif y1 then
        k (true, u25)
      else
        bif ((u5.length : Int) == (8 : Int)) then
          k (false, u25)
        else
          if u25.length + [(u9, u10)].length ≤ VE.maxLen then
            k (true, (u25 ++ [(u9, u10)]))
          else none)

theorem impl_ReadRange_wz5000004 {u0 : Bool} {u1 : Int} {u2 : Int} {u3 : Int} {u4 : Int} {u5 : (List dRange)} {u6 : (List dWrite)} {u7 : Bool} {u8 : ByteArray} {u9 : ByteArray} {u10 : ByteArray} {u11 : Int} {u12 : Int} {u13 : Int} {u14 : Int} {u15 : Bool} {u16 : ByteArray} {u17 : Int} {u18 : Int} {u19 : Int} {u20 : Int} {u21 : Bool} {u22 : ByteArray} {u23 : (List dRange)} {u24 : (List dWrite)} {u25 : (List dRange)} {u26 : (List dWrite)}  {K : (Bool × Int × Int × Int × Int × (List dRange) × (List dWrite) × Bool × ByteArray × ByteArray × ByteArray × Int × Int × Int × Int × Bool × ByteArray × Int × Int × Int × Int × Bool × ByteArray × (List dRange) × (List dWrite)) → Option Res} : impl_ReadRange_j5000004 (u0, u1, u2, u3, u4, u5, u6, u7, u8, u9, u10, u11, u12, u13, u14, u15, u16, u17, u18, u19, u20, u21, u22, u23, u24, u25, u26) K = impl_ReadRange_wj5000004 u0 u1 u2 u3 u4 u5 u6 u7 u8 u9 u10 u11 u12 u13 u14 u15 u16 u17 u18 u19 u20 u21 u22 u23 u24 u25 u26 (fun z => K (z.1, u1, u2, u3, u4, u5, u6, u7, u8, u9, u10, u17, u18, u19, u20, u21, u22, u17, u18, u19, u20, u21, u22, z.2, u26)) := by
  simp only [impl_ReadRange_j5000004, impl_ReadRange_wj5000004, Sum.elim_inl, Sum.elim_inr]

def impl_ReadRange_t (a0 : dTxn) (a1 : dRange) (k : (Int × Int × Int × Int × Bool × ByteArray × Bool × (List dRange) × (List dWrite)) → Option Res) : Option Res :=
  impl_copyTxn_k a0 (fun y27 =>
    impl_TxnOk_k a0 (fun y28 =>
      bif (!y28) then
        k (y27.1, y27.2.1, y27.2.2.1, y27.2.2.2.1, y27.2.2.2.2.1, y27.2.2.2.2.2.1, false, y27.2.2.2.2.2.2.1, y27.2.2.2.2.2.2.2)
      else
        bif (a0.2.1 != (1 : Int)) then
          k (y27.1, y27.2.1, y27.2.2.1, y27.2.2.2.1, y27.2.2.2.2.1, y27.2.2.2.2.2.1, false, y27.2.2.2.2.2.2.1, y27.2.2.2.2.2.2.2)
        else
          impl_RangeOk_k a1 (fun y29 =>
            bif (!y29) then
              k (y27.1, y27.2.1, y27.2.2.1, y27.2.2.2.1, y27.2.2.2.2.1, y27.2.2.2.2.2.1, false, y27.2.2.2.2.2.2.1, y27.2.2.2.2.2.2.2)
            else
              impl_ReadRange_wj5000004 false a0.1 a0.2.1 a0.2.2.1 a0.2.2.2.1 a0.2.2.2.2.1 a0.2.2.2.2.2.1 a0.2.2.2.2.2.2.1 a0.2.2.2.2.2.2.2 a1.1 a1.2 (0 : Int) (0 : Int) (0 : Int) (0 : Int) false (⟨#[]⟩ : ByteArray) y27.1 y27.2.1 y27.2.2.1 y27.2.2.2.1 y27.2.2.2.2.1 y27.2.2.2.2.2.1 ([] : List dRange) ([] : List dWrite) y27.2.2.2.2.2.2.1 y27.2.2.2.2.2.2.2 (fun z30 =>
                k (y27.1, y27.2.1, y27.2.2.1, y27.2.2.2.1, y27.2.2.2.2.1, y27.2.2.2.2.2.1, z30.1, z30.2, y27.2.2.2.2.2.2.2)))))

theorem impl_ReadRange_r {a0 : dTxn} {a1 : dRange}  {k : (Int × Int × Int × Int × Bool × ByteArray × Bool × (List dRange) × (List dWrite)) → Option Res} : impl_ReadRange_k a0 a1 k = impl_ReadRange_t a0 a1 k := by
  rw [impl_ReadRange_e]
  simp only [impl_ReadRange_d, impl_ReadRange_t, impl_ReadRange_wz5000004, Sum.elim_inl, Sum.elim_inr]

def laws_eqRangeS_w0 (u0 : (List dRange)) (u1 : (List dRange)) (u2 : Bool) : List dRange → Nat → (((Bool × Int) ⊕ Int) → Option Res) → Option Res
  | [], i, k =>
    k (.inr (i : Int))
  | y :: l, i, k =>
    if 0 ≤ (i : Int) ∧ (i : Int) < (u1.length : Int) then
      laws_eqRange_k y (rd (Ty.zero tRange) u1 (i : Int)) (fun y1 =>
        bif (!y1) then
          k (.inl (false, (i : Int)))
        else
          laws_eqRangeS_w0 u0 u1 u2 l (i + 1) k)
    else none

theorem laws_eqRangeS_lw0 {u0 : (List dRange)} {u1 : (List dRange)} {u2 : Bool} (h0 : u0.length < 9223372036854775807) {K : (((List dRange) × (List dRange) × Bool × Int) ⊕ ((List dRange) × (List dRange) × Bool × Int)) → Option Res} : ∀ (l : List dRange) (i : Nat)  (n : Nat), u0.drop i = l → l.length < n → loopK laws_eqRangeS_b0 n (u0, u1, u2, (i : Int)) K = laws_eqRangeS_w0 u0 u1 u2 l  i (Sum.elim (fun z => K (.inl (u0, u1, z.1, z.2))) (fun z => K (.inr (u0, u1, u2, z)))) := by
  intro l
  induction l with
  | nil =>
    intro i  n hd hn
    have hge := lwl_nil hd
    cases n with
    | zero => exact absurd hn (Nat.not_lt_zero _)
    | succ n => simp only [loopK, laws_eqRangeS_b0, laws_eqRangeS_w0, hge, decide_false, cond_false, Sum.elim_inr, Sum.elim_inl]
  | cons y l ih =>
    intro i  n hd hn
    obtain ⟨hlt, hz, hd2, hw, hnn⟩ := lwl_cons hd h0
    have hy := lwl_get hd
    cases n with
    | zero => exact absurd hn (Nat.not_lt_zero _)
    | succ n =>
      have ih2 := ih (i + 1)  n hd2 (Nat.lt_of_succ_lt_succ hn)
      simp only [loopK, laws_eqRangeS_b0, laws_eqRangeS_w0, hlt, hz, decide_true, cond_true, and_self, if_true, hy, hw, hnn, Sum.elim_inl, Sum.elim_inr, ih2]

theorem laws_eqRangeS_lz0 {u0 : (List dRange)} {u1 : (List dRange)} {u2 : Bool} (h0 : u0.length < 9223372036854775807) {K : (((List dRange) × (List dRange) × Bool × Int) ⊕ ((List dRange) × (List dRange) × Bool × Int)) → Option Res}  : loopK laws_eqRangeS_b0 Fuel (u0, u1, u2, (0 : Int)) K = laws_eqRangeS_w0 u0 u1 u2 u0  0 (Sum.elim (fun z => K (.inl (u0, u1, z.1, z.2))) (fun z => K (.inr (u0, u1, u2, z)))) :=
  laws_eqRangeS_lw0 h0 u0 0  Fuel rfl (lwl_fuel h0)

def laws_eqRangeS_t (a0 : (List dRange)) (a1 : (List dRange)) (k : Bool → Option Res) : Option Res :=
  bif ((a0.length : Int) != (a1.length : Int)) then
    k false
  else
    laws_eqRangeS_w0 a0 a1 false a0  0 (Sum.elim (fun z27 =>
      k z27.1) (fun _ =>
      k true))

theorem laws_eqRangeS_r {a0 : (List dRange)} {a1 : (List dRange)} (h0 : a0.length < 9223372036854775807) {k : Bool → Option Res} : laws_eqRangeS_k a0 a1 k = laws_eqRangeS_t a0 a1 k := by
  rw [laws_eqRangeS_e]
  simp only [laws_eqRangeS_d, laws_eqRangeS_t, (laws_eqRangeS_lz0 h0), Sum.elim_inl, Sum.elim_inr]

def laws_eqWriteS_w0 (u0 : (List dWrite)) (u1 : (List dWrite)) (u2 : Bool) : List dWrite → Nat → (((Bool × Int) ⊕ Int) → Option Res) → Option Res
  | [], i, k =>
    k (.inr (i : Int))
  | y :: l, i, k =>
    if 0 ≤ (i : Int) ∧ (i : Int) < (u1.length : Int) then
      laws_eqWrite_k y (rd (Ty.zero tWrite) u1 (i : Int)) (fun y1 =>
        bif (!y1) then
          k (.inl (false, (i : Int)))
        else
          laws_eqWriteS_w0 u0 u1 u2 l (i + 1) k)
    else none

theorem laws_eqWriteS_lw0 {u0 : (List dWrite)} {u1 : (List dWrite)} {u2 : Bool} (h0 : u0.length < 9223372036854775807) {K : (((List dWrite) × (List dWrite) × Bool × Int) ⊕ ((List dWrite) × (List dWrite) × Bool × Int)) → Option Res} : ∀ (l : List dWrite) (i : Nat)  (n : Nat), u0.drop i = l → l.length < n → loopK laws_eqWriteS_b0 n (u0, u1, u2, (i : Int)) K = laws_eqWriteS_w0 u0 u1 u2 l  i (Sum.elim (fun z => K (.inl (u0, u1, z.1, z.2))) (fun z => K (.inr (u0, u1, u2, z)))) := by
  intro l
  induction l with
  | nil =>
    intro i  n hd hn
    have hge := lwl_nil hd
    cases n with
    | zero => exact absurd hn (Nat.not_lt_zero _)
    | succ n => simp only [loopK, laws_eqWriteS_b0, laws_eqWriteS_w0, hge, decide_false, cond_false, Sum.elim_inr, Sum.elim_inl]
  | cons y l ih =>
    intro i  n hd hn
    obtain ⟨hlt, hz, hd2, hw, hnn⟩ := lwl_cons hd h0
    have hy := lwl_get hd
    cases n with
    | zero => exact absurd hn (Nat.not_lt_zero _)
    | succ n =>
      have ih2 := ih (i + 1)  n hd2 (Nat.lt_of_succ_lt_succ hn)
      simp only [loopK, laws_eqWriteS_b0, laws_eqWriteS_w0, hlt, hz, decide_true, cond_true, and_self, if_true, hy, hw, hnn, Sum.elim_inl, Sum.elim_inr, ih2]

theorem laws_eqWriteS_lz0 {u0 : (List dWrite)} {u1 : (List dWrite)} {u2 : Bool} (h0 : u0.length < 9223372036854775807) {K : (((List dWrite) × (List dWrite) × Bool × Int) ⊕ ((List dWrite) × (List dWrite) × Bool × Int)) → Option Res}  : loopK laws_eqWriteS_b0 Fuel (u0, u1, u2, (0 : Int)) K = laws_eqWriteS_w0 u0 u1 u2 u0  0 (Sum.elim (fun z => K (.inl (u0, u1, z.1, z.2))) (fun z => K (.inr (u0, u1, u2, z)))) :=
  laws_eqWriteS_lw0 h0 u0 0  Fuel rfl (lwl_fuel h0)

def laws_eqWriteS_t (a0 : (List dWrite)) (a1 : (List dWrite)) (k : Bool → Option Res) : Option Res :=
  bif ((a0.length : Int) != (a1.length : Int)) then
    k false
  else
    laws_eqWriteS_w0 a0 a1 false a0  0 (Sum.elim (fun z27 =>
      k z27.1) (fun _ =>
      k true))

theorem laws_eqWriteS_r {a0 : (List dWrite)} {a1 : (List dWrite)} (h0 : a0.length < 9223372036854775807) {k : Bool → Option Res} : laws_eqWriteS_k a0 a1 k = laws_eqWriteS_t a0 a1 k := by
  rw [laws_eqWriteS_e]
  simp only [laws_eqWriteS_d, laws_eqWriteS_t, (laws_eqWriteS_lz0 h0), Sum.elim_inl, Sum.elim_inr]

def laws_markText_t (a0 : Int) (k : ByteArray → Option Res) : Option Res :=
  bif (decide (a0 ≤ (0 : Int))) then
    k (⟨#[109, 48]⟩ : ByteArray)
  else
    loopK laws_markText_b0 Fuel (a0, (⟨#[]⟩ : ByteArray)) (fun z27 =>
      if (⟨#[109]⟩ : ByteArray).size + z27.2.size ≤ 1099511627776 then
        k ((⟨#[109]⟩ : ByteArray) ++ z27.2)
      else none)

theorem laws_markText_r {a0 : Int}  {k : ByteArray → Option Res} : laws_markText_k a0 k = laws_markText_t a0 k := by
  rw [laws_markText_e]
  simp only [laws_markText_d, laws_markText_t, Sum.elim_inl, Sum.elim_inr]

def laws_markRangeS_vo_t (a0 : Int) (a1 : (List dRange)) (k : (Int × (List dRange)) → Option Res) : Option Res :=
  loopK laws_markRangeS_vo_b0 Fuel (a0, (0 : Int), a1) (fun z27 =>
    k (z27.1, z27.2.2))

theorem laws_markRangeS_vo_r {a0 : Int} {a1 : (List dRange)}  {k : (Int × (List dRange)) → Option Res} : laws_markRangeS_vo_k a0 a1 k = laws_markRangeS_vo_t a0 a1 k := by
  rw [laws_markRangeS_vo_e]
  simp only [laws_markRangeS_vo_d, laws_markRangeS_vo_t, Sum.elim_inl, Sum.elim_inr]

def laws_markWriteS_vo_t (a0 : Int) (a1 : (List dWrite)) (k : (Int × (List dWrite)) → Option Res) : Option Res :=
  loopK laws_markWriteS_vo_b0 Fuel (a0, (0 : Int), a1) (fun z27 =>
    k (z27.1, z27.2.2))

theorem laws_markWriteS_vo_r {a0 : Int} {a1 : (List dWrite)}  {k : (Int × (List dWrite)) → Option Res} : laws_markWriteS_vo_k a0 a1 k = laws_markWriteS_vo_t a0 a1 k := by
  rw [laws_markWriteS_vo_e]
  simp only [laws_markWriteS_vo_d, laws_markWriteS_vo_t, Sum.elim_inl, Sum.elim_inr]

def laws_heldRangeS_w0 (u0 : (List dRange)) (u2 : Int) : List dRange → Int → Nat → (((Int × Int × Int) ⊕ (Int × Int)) → Option Res) → Option Res
  | [], s1, i, k =>
    k (.inr (s1, (i : Int)))
  | y :: l, s1, i, k =>
    laws_markText_k s1 (fun y1 =>
      bif (!(strEq (y.1) y1)) then
        k (.inl (s1, (-1 : Int), (i : Int)))
      else
        laws_markText_k (IntKind.wrap .i64 (s1 + (1 : Int))) (fun y2 =>
          bif (!(strEq (y.2) y2)) then
            k (.inl ((IntKind.wrap .i64 (s1 + (1 : Int))), (-1 : Int), (i : Int)))
          else
            laws_heldRangeS_w0 u0 u2 l (IntKind.wrap .i64 ((IntKind.wrap .i64 (s1 + (1 : Int))) + (1 : Int))) (i + 1) k))

theorem laws_heldRangeS_lw0 {u0 : (List dRange)} {u2 : Int} (h0 : u0.length < 9223372036854775807) {K : (((List dRange) × Int × Int × Int) ⊕ ((List dRange) × Int × Int × Int)) → Option Res} : ∀ (l : List dRange) (i : Nat) (s1 : Int) (n : Nat), u0.drop i = l → l.length < n → loopK laws_heldRangeS_b0 n (u0, s1, u2, (i : Int)) K = laws_heldRangeS_w0 u0 u2 l s1 i (Sum.elim (fun z => K (.inl (u0, z.1, z.2.1, z.2.2))) (fun z => K (.inr (u0, z.1, u2, z.2)))) := by
  intro l
  induction l with
  | nil =>
    intro i s1 n hd hn
    have hge := lwl_nil hd
    cases n with
    | zero => exact absurd hn (Nat.not_lt_zero _)
    | succ n => simp only [loopK, laws_heldRangeS_b0, laws_heldRangeS_w0, hge, decide_false, cond_false, Sum.elim_inr, Sum.elim_inl]
  | cons y l ih =>
    intro i s1 n hd hn
    obtain ⟨hlt, hz, hd2, hw, hnn⟩ := lwl_cons hd h0
    have hy := lwl_get hd
    cases n with
    | zero => exact absurd hn (Nat.not_lt_zero _)
    | succ n =>
      have ih2 := fun (s1 : Int) => ih (i + 1) s1 n hd2 (Nat.lt_of_succ_lt_succ hn)
      simp only [loopK, laws_heldRangeS_b0, laws_heldRangeS_w0, hlt, hz, decide_true, cond_true, and_self, if_true, hy, hw, hnn, Sum.elim_inl, Sum.elim_inr, ih2]

theorem laws_heldRangeS_lz0 {u0 : (List dRange)} {u2 : Int} (h0 : u0.length < 9223372036854775807) {K : (((List dRange) × Int × Int × Int) ⊕ ((List dRange) × Int × Int × Int)) → Option Res} {s1 : Int} : loopK laws_heldRangeS_b0 Fuel (u0, s1, u2, (0 : Int)) K = laws_heldRangeS_w0 u0 u2 u0 s1 0 (Sum.elim (fun z => K (.inl (u0, z.1, z.2.1, z.2.2))) (fun z => K (.inr (u0, z.1, u2, z.2)))) :=
  laws_heldRangeS_lw0 h0 u0 0 s1 Fuel rfl (lwl_fuel h0)

def laws_heldRangeS_t (a0 : (List dRange)) (a1 : Int) (k : Int → Option Res) : Option Res :=
  laws_heldRangeS_w0 a0 (0 : Int) a0 a1 0 (Sum.elim (fun z27 =>
    k z27.2.1) (fun z28 =>
    k z28.1))

theorem laws_heldRangeS_r {a0 : (List dRange)} {a1 : Int} (h0 : a0.length < 9223372036854775807) {k : Int → Option Res} : laws_heldRangeS_k a0 a1 k = laws_heldRangeS_t a0 a1 k := by
  rw [laws_heldRangeS_e]
  simp only [laws_heldRangeS_d, laws_heldRangeS_t, (laws_heldRangeS_lz0 h0), Sum.elim_inl, Sum.elim_inr]

def laws_heldWriteS_w0 (u0 : (List dWrite)) (u2 : Int) : List dWrite → Int → Nat → (((Int × Int × Int) ⊕ (Int × Int)) → Option Res) → Option Res
  | [], s1, i, k =>
    k (.inr (s1, (i : Int)))
  | y :: l, s1, i, k =>
    laws_markText_k s1 (fun y1 =>
      bif (!(strEq (y.1) y1)) then
        k (.inl (s1, (-1 : Int), (i : Int)))
      else
        laws_markText_k (IntKind.wrap .i64 (s1 + (1 : Int))) (fun y2 =>
          bif (!(strEq (y.2.1) y2)) then
            k (.inl ((IntKind.wrap .i64 (s1 + (1 : Int))), (-1 : Int), (i : Int)))
          else
            bif (!(y.2.2 == (((IntKind.wrap .i64 ((IntKind.wrap .i64 (s1 + (1 : Int))) + (1 : Int))).tmod (3 : Int)) == (0 : Int)))) then
              k (.inl ((IntKind.wrap .i64 ((IntKind.wrap .i64 (s1 + (1 : Int))) + (1 : Int))), (-1 : Int), (i : Int)))
            else
              laws_heldWriteS_w0 u0 u2 l (IntKind.wrap .i64 ((IntKind.wrap .i64 ((IntKind.wrap .i64 (s1 + (1 : Int))) + (1 : Int))) + (1 : Int))) (i + 1) k))

theorem laws_heldWriteS_lw0 {u0 : (List dWrite)} {u2 : Int} (h0 : u0.length < 9223372036854775807) {K : (((List dWrite) × Int × Int × Int) ⊕ ((List dWrite) × Int × Int × Int)) → Option Res} : ∀ (l : List dWrite) (i : Nat) (s1 : Int) (n : Nat), u0.drop i = l → l.length < n → loopK laws_heldWriteS_b0 n (u0, s1, u2, (i : Int)) K = laws_heldWriteS_w0 u0 u2 l s1 i (Sum.elim (fun z => K (.inl (u0, z.1, z.2.1, z.2.2))) (fun z => K (.inr (u0, z.1, u2, z.2)))) := by
  intro l
  induction l with
  | nil =>
    intro i s1 n hd hn
    have hge := lwl_nil hd
    cases n with
    | zero => exact absurd hn (Nat.not_lt_zero _)
    | succ n => simp only [loopK, laws_heldWriteS_b0, laws_heldWriteS_w0, hge, decide_false, cond_false, Sum.elim_inr, Sum.elim_inl]
  | cons y l ih =>
    intro i s1 n hd hn
    obtain ⟨hlt, hz, hd2, hw, hnn⟩ := lwl_cons hd h0
    have hy := lwl_get hd
    cases n with
    | zero => exact absurd hn (Nat.not_lt_zero _)
    | succ n =>
      have ih2 := fun (s1 : Int) => ih (i + 1) s1 n hd2 (Nat.lt_of_succ_lt_succ hn)
      simp only [loopK, laws_heldWriteS_b0, laws_heldWriteS_w0, hlt, hz, decide_true, cond_true, and_self, if_true, hy, hw, hnn, Sum.elim_inl, Sum.elim_inr, ih2]

theorem laws_heldWriteS_lz0 {u0 : (List dWrite)} {u2 : Int} (h0 : u0.length < 9223372036854775807) {K : (((List dWrite) × Int × Int × Int) ⊕ ((List dWrite) × Int × Int × Int)) → Option Res} {s1 : Int} : loopK laws_heldWriteS_b0 Fuel (u0, s1, u2, (0 : Int)) K = laws_heldWriteS_w0 u0 u2 u0 s1 0 (Sum.elim (fun z => K (.inl (u0, z.1, z.2.1, z.2.2))) (fun z => K (.inr (u0, z.1, u2, z.2)))) :=
  laws_heldWriteS_lw0 h0 u0 0 s1 Fuel rfl (lwl_fuel h0)

def laws_heldWriteS_t (a0 : (List dWrite)) (a1 : Int) (k : Int → Option Res) : Option Res :=
  laws_heldWriteS_w0 a0 (0 : Int) a0 a1 0 (Sum.elim (fun z27 =>
    k z27.2.1) (fun z28 =>
    k z28.1))

theorem laws_heldWriteS_r {a0 : (List dWrite)} {a1 : Int} (h0 : a0.length < 9223372036854775807) {k : Int → Option Res} : laws_heldWriteS_k a0 a1 k = laws_heldWriteS_t a0 a1 k := by
  rw [laws_heldWriteS_e]
  simp only [laws_heldWriteS_d, laws_heldWriteS_t, (laws_heldWriteS_lz0 h0), Sum.elim_inl, Sum.elim_inr]

def laws_FnExactReadRange_wj5000030 (u0 : Bool) (u1 : Int) (u2 : Int) (u3 : Int) (u4 : Int) (u5 : Int) (u6 : Bool) (u7 : ByteArray) (u8 : (List dRange)) (u9 : (List dWrite)) (k : Bool → Option Res) : Option Res :=
    laws_heldTxn_k (u2, (u3, (u4, (u5, (u8, (u9, (u6, u7))))))) (1 : Int) (fun y1 =>
      bif (decide (y1 < (0 : Int))) then
        k false
      else
        bif (y1 != u1) then
          k false
        else
          k true)

theorem laws_FnExactReadRange_wz5000030 {u0 : Bool} {u1 : Int} {u2 : Int} {u3 : Int} {u4 : Int} {u5 : Int} {u6 : Bool} {u7 : ByteArray} {u8 : (List dRange)} {u9 : (List dWrite)}  {K : (Bool × Int × Int × Int × Int × Int × Bool × ByteArray × (List dRange) × (List dWrite)) → Option Res} : laws_FnExactReadRange_j5000030 (u0, u1, u2, u3, u4, u5, u6, u7, u8, u9) K = laws_FnExactReadRange_wj5000030 u0 u1 u2 u3 u4 u5 u6 u7 u8 u9 (fun z => K (z, u1, u2, u3, u4, u5, u6, u7, u8, u9)) := by
  simp only [laws_FnExactReadRange_j5000030, laws_FnExactReadRange_wj5000030, Sum.elim_inl, Sum.elim_inr]

def laws_FnExactReadRange_wj5000019 (u0 : Bool) (u1 : Bool) (u2 : Int) (u3 : Int) (u4 : Int) (u5 : Int) (u6 : (List dRange)) (u7 : (List dWrite)) (u8 : Bool) (u9 : ByteArray) (u10 : ByteArray) (u11 : ByteArray) (u12 : Int) (u13 : Int) (u14 : Int) (u15 : Int) (u16 : Bool) (u17 : ByteArray) (u18 : Int) (u19 : Int) (u20 : Int) (u21 : Int) (u22 : Bool) (u23 : ByteArray) (u24 : (List dRange)) (u25 : (List dWrite)) (u26 : (List dRange)) (u27 : (List dWrite)) (k : ((Bool × (List dRange) × (List dWrite)) ⊕ (Bool × (List dRange) × (List dWrite))) → Option Res) : Option Res :=
    laws_markTxn_va_k u18 u19 u20 u21 u22 u23 (1 : Int) u26 u27 (fun y1 =>
      laws_heldTxn_k (u18, (u19, (u20, (u21, (y1.2.1, (y1.2.2, (u22, u23))))))) (1 : Int) (fun y2 =>
        bif (decide (y2 < (0 : Int))) then
          k (.inl (false, y1.2.1, y1.2.2))
        else
          bif (y2 != y1.1) then
            k (.inl (false, y1.2.1, y1.2.2))
          else
            laws_toTxn_k (u2, (u3, (u4, (u5, (u6, (u7, (u8, u9))))))) (fun y3 =>
              laws_toRange_k (u10, u11) (fun y4 =>
                impl_ReadRange_k (y3.1, (y3.2.1, (y3.2.2.1, (y3.2.2.2.1, (y3.2.2.2.2.2.2.1, (y3.2.2.2.2.2.2.2, (y3.2.2.2.2.1, y3.2.2.2.2.2.1))))))) y4 (fun y5 =>
                  laws_eqTxn_k (y5.1, (y5.2.1, (y5.2.2.1, (y5.2.2.2.1, (y5.2.2.2.2.2.2.2.1, (y5.2.2.2.2.2.2.2.2, (y5.2.2.2.2.1, y5.2.2.2.2.2.1))))))) (u12, (u13, (u14, (u15, (u24, (u25, (u16, u17))))))) (fun y6 =>
                    bif (!y6) then
                      k (.inl (false, y1.2.1, y1.2.2))
                    else
                      bif (!(y5.2.2.2.2.2.2.1 == u1)) then
                        k (.inl (false, y1.2.1, y1.2.2))
                      else
                        laws_FnExactReadRange_wj5000030 u0 y1.1 u18 u19 u20 u21 u22 u23 y1.2.1 y1.2.2 (fun z7 =>
                          k (.inr (z7, y1.2.1, y1.2.2)))))))))

theorem laws_FnExactReadRange_wz5000019 {u0 : Bool} {u1 : Bool} {u2 : Int} {u3 : Int} {u4 : Int} {u5 : Int} {u6 : (List dRange)} {u7 : (List dWrite)} {u8 : Bool} {u9 : ByteArray} {u10 : ByteArray} {u11 : ByteArray} {u12 : Int} {u13 : Int} {u14 : Int} {u15 : Int} {u16 : Bool} {u17 : ByteArray} {u18 : Int} {u19 : Int} {u20 : Int} {u21 : Int} {u22 : Bool} {u23 : ByteArray} {u24 : (List dRange)} {u25 : (List dWrite)} {u26 : (List dRange)} {u27 : (List dWrite)}  {K : ((Bool × Bool × Int × Int × Int × Int × (List dRange) × (List dWrite) × Bool × ByteArray × ByteArray × ByteArray × Int × Int × Int × Int × Bool × ByteArray × Int × Int × Int × Int × Bool × ByteArray × (List dRange) × (List dWrite) × (List dRange) × (List dWrite)) ⊕ (Bool × Int × Int × Int × Int × Bool × ByteArray × (List dRange) × (List dWrite))) → Option Res} : laws_FnExactReadRange_j5000019 (u0, u1, u2, u3, u4, u5, u6, u7, u8, u9, u10, u11, u12, u13, u14, u15, u16, u17, u18, u19, u20, u21, u22, u23, u24, u25, u26, u27) K = laws_FnExactReadRange_wj5000019 u0 u1 u2 u3 u4 u5 u6 u7 u8 u9 u10 u11 u12 u13 u14 u15 u16 u17 u18 u19 u20 u21 u22 u23 u24 u25 u26 u27 (Sum.elim (fun z => K (.inl (z.1, u1, u2, u3, u4, u5, u6, u7, u8, u9, u10, u11, u12, u13, u14, u15, u16, u17, u18, u19, u20, u21, u22, u23, u24, u25, z.2.1, z.2.2))) (fun z => K (.inr (z.1, u18, u19, u20, u21, u22, u23, z.2.1, z.2.2)))) := by
  simp only [laws_FnExactReadRange_j5000019, laws_FnExactReadRange_wj5000019, laws_FnExactReadRange_wz5000030, Sum.elim_inl, Sum.elim_inr]

def laws_FnExactReadRange_wj5000013 (u0 : Bool) (u1 : Bool) (u2 : Bool) (u3 : Int) (u4 : Int) (u5 : Int) (u6 : Int) (u7 : (List dRange)) (u8 : (List dWrite)) (u9 : Bool) (u10 : ByteArray) (u11 : ByteArray) (u12 : ByteArray) (u13 : Int) (u14 : Int) (u15 : Int) (u16 : Int) (u17 : Bool) (u18 : ByteArray) (u19 : Int) (u20 : Int) (u21 : Int) (u22 : Int) (u23 : Bool) (u24 : ByteArray) (u25 : Int) (u26 : Int) (u27 : Int) (u28 : Int) (u29 : Bool) (u30 : ByteArray) (u31 : (List dRange)) (u32 : (List dWrite)) (u33 : (List dRange)) (u34 : (List dWrite)) (u35 : (List dRange)) (u36 : (List dWrite)) (k : ((Bool × (List dRange) × (List dWrite)) ⊕ ((Bool × (List dRange) × (List dWrite)) ⊕ (Bool × (List dRange) × (List dWrite)))) → Option Res) : Option Res :=
    laws_toTxn_k (u3, (u4, (u5, (u6, (u7, (u8, (u9, u10))))))) (fun y1 =>
      laws_eqTxn_k (u19, (u20, (u21, (u22, (u33, (u34, (u23, u24))))))) (y1.1, (y1.2.1, (y1.2.2.1, (y1.2.2.2.1, (y1.2.2.2.2.2.2.1, (y1.2.2.2.2.2.2.2, (y1.2.2.2.2.1, y1.2.2.2.2.2.1))))))) (fun y2 =>
        bif (!y2) then
          k (.inl (false, u33, u34))
        else
          laws_markTxn_va_k u19 u20 u21 u22 u23 u24 (1 : Int) u33 u34 (fun y3 =>
            bif (decide (y3.1 < (0 : Int))) then
              k (.inl (false, y3.2.1, y3.2.2))
            else
              laws_eqTxn_k (u25, (u26, (u27, (u28, (u35, (u36, (u29, u30))))))) (u13, (u14, (u15, (u16, (u31, (u32, (u17, u18))))))) (fun y4 =>
                bif (!y4) then
                  k (.inl (false, y3.2.1, y3.2.2))
                else
                  bif (!(u2 == u1)) then
                    k (.inl (false, y3.2.1, y3.2.2))
                  else
                    laws_FnExactReadRange_wj5000019 u0 u1 u3 u4 u5 u6 u7 u8 u9 u10 u11 u12 u13 u14 u15 u16 u17 u18 u25 u26 u27 u28 u29 u30 u31 u32 u35 u36 (Sum.elim (fun z5 =>
                      k (.inr (.inl (z5.1, z5.2.1, z5.2.2)))) (fun z6 =>
                      k (.inr (.inr (z6.1, z6.2.1, z6.2.2)))))))))

theorem laws_FnExactReadRange_wz5000013 {u0 : Bool} {u1 : Bool} {u2 : Bool} {u3 : Int} {u4 : Int} {u5 : Int} {u6 : Int} {u7 : (List dRange)} {u8 : (List dWrite)} {u9 : Bool} {u10 : ByteArray} {u11 : ByteArray} {u12 : ByteArray} {u13 : Int} {u14 : Int} {u15 : Int} {u16 : Int} {u17 : Bool} {u18 : ByteArray} {u19 : Int} {u20 : Int} {u21 : Int} {u22 : Int} {u23 : Bool} {u24 : ByteArray} {u25 : Int} {u26 : Int} {u27 : Int} {u28 : Int} {u29 : Bool} {u30 : ByteArray} {u31 : (List dRange)} {u32 : (List dWrite)} {u33 : (List dRange)} {u34 : (List dWrite)} {u35 : (List dRange)} {u36 : (List dWrite)}  {K : ((Bool × Bool × Bool × Int × Int × Int × Int × (List dRange) × (List dWrite) × Bool × ByteArray × ByteArray × ByteArray × Int × Int × Int × Int × Bool × ByteArray × Int × Int × Int × Int × Bool × ByteArray × Int × Int × Int × Int × Bool × ByteArray × (List dRange) × (List dWrite) × (List dRange) × (List dWrite) × (List dRange) × (List dWrite)) ⊕ ((Bool × Bool × Int × Int × Int × Int × (List dRange) × (List dWrite) × Bool × ByteArray × ByteArray × ByteArray × Int × Int × Int × Int × Bool × ByteArray × Int × Int × Int × Int × Bool × ByteArray × (List dRange) × (List dWrite) × (List dRange) × (List dWrite)) ⊕ (Bool × Int × Int × Int × Int × Bool × ByteArray × (List dRange) × (List dWrite)))) → Option Res} : laws_FnExactReadRange_j5000013 (u0, u1, u2, u3, u4, u5, u6, u7, u8, u9, u10, u11, u12, u13, u14, u15, u16, u17, u18, u19, u20, u21, u22, u23, u24, u25, u26, u27, u28, u29, u30, u31, u32, u33, u34, u35, u36) K = laws_FnExactReadRange_wj5000013 u0 u1 u2 u3 u4 u5 u6 u7 u8 u9 u10 u11 u12 u13 u14 u15 u16 u17 u18 u19 u20 u21 u22 u23 u24 u25 u26 u27 u28 u29 u30 u31 u32 u33 u34 u35 u36 (Sum.elim (fun z => K (.inl (z.1, u1, u2, u3, u4, u5, u6, u7, u8, u9, u10, u11, u12, u13, u14, u15, u16, u17, u18, u19, u20, u21, u22, u23, u24, u25, u26, u27, u28, u29, u30, u31, u32, z.2.1, z.2.2, u35, u36))) (Sum.elim (fun z => K (.inr (.inl (z.1, u1, u3, u4, u5, u6, u7, u8, u9, u10, u11, u12, u13, u14, u15, u16, u17, u18, u25, u26, u27, u28, u29, u30, u31, u32, z.2.1, z.2.2)))) (fun z => K (.inr (.inr (z.1, u25, u26, u27, u28, u29, u30, z.2.1, z.2.2)))))) := by
  simp only [laws_FnExactReadRange_j5000013, laws_FnExactReadRange_wj5000013, laws_FnExactReadRange_wz5000019, Sum.elim_inl, Sum.elim_inr]

def laws_FnExactReadRange_t (a0 : dTxn) (a1 : dRange) (k : Bool → Option Res) : Option Res :=
  laws_szTxn_k a0 (1048576 : Int) (fun y27 =>
    bif (decide (y27 < (0 : Int))) then
      k true
    else
      laws_szRange_k a1 y27 (fun y28 =>
        bif (decide (y28 < (0 : Int))) then
          k true
        else
          laws_toTxn_k a0 (fun y29 =>
            laws_toRange_k a1 (fun y30 =>
              spec_ReadRange_k (y29.1, (y29.2.1, (y29.2.2.1, (y29.2.2.2.1, (y29.2.2.2.2.2.2.1, (y29.2.2.2.2.2.2.2, (y29.2.2.2.2.1, y29.2.2.2.2.2.1))))))) y30 (fun y31 =>
                laws_toTxn_k a0 (fun y32 =>
                  laws_toRange_k a1 (fun y33 =>
                    impl_ReadRange_k (y32.1, (y32.2.1, (y32.2.2.1, (y32.2.2.2.1, (y32.2.2.2.2.2.2.1, (y32.2.2.2.2.2.2.2, (y32.2.2.2.2.1, y32.2.2.2.2.2.1))))))) y33 (fun y34 =>
                      laws_eqTxn_k (y34.1, (y34.2.1, (y34.2.2.1, (y34.2.2.2.1, (y34.2.2.2.2.2.2.2.1, (y34.2.2.2.2.2.2.2.2, (y34.2.2.2.2.1, y34.2.2.2.2.2.1))))))) (y31.1, (y31.2.1, (y31.2.2.1, (y31.2.2.2.1, (y31.2.2.2.2.2.2.2.1, (y31.2.2.2.2.2.2.2.2, (y31.2.2.2.2.1, y31.2.2.2.2.2.1))))))) (fun y35 =>
                        bif (!y35) then
                          k false
                        else
                          bif (!(y34.2.2.2.2.2.2.1 == y31.2.2.2.2.2.2.1)) then
                            k false
                          else
                            laws_FnExactReadRange_wj5000013 false y31.2.2.2.2.2.2.1 y34.2.2.2.2.2.2.1 a0.1 a0.2.1 a0.2.2.1 a0.2.2.2.1 a0.2.2.2.2.1 a0.2.2.2.2.2.1 a0.2.2.2.2.2.2.1 a0.2.2.2.2.2.2.2 a1.1 a1.2 y31.1 y31.2.1 y31.2.2.1 y31.2.2.2.1 y31.2.2.2.2.1 y31.2.2.2.2.2.1 y32.1 y32.2.1 y32.2.2.1 y32.2.2.2.1 y32.2.2.2.2.1 y32.2.2.2.2.2.1 y34.1 y34.2.1 y34.2.2.1 y34.2.2.2.1 y34.2.2.2.2.1 y34.2.2.2.2.2.1 y31.2.2.2.2.2.2.2.1 y31.2.2.2.2.2.2.2.2 y32.2.2.2.2.2.2.1 y32.2.2.2.2.2.2.2 y34.2.2.2.2.2.2.2.1 y34.2.2.2.2.2.2.2.2 (Sum.elim (fun z36 =>
                              k z36.1) (Sum.elim (fun z37 =>
                              k z37.1) (fun z38 =>
                              k z38.1))))))))))))

theorem laws_FnExactReadRange_r {a0 : dTxn} {a1 : dRange}  {k : Bool → Option Res} : laws_FnExactReadRange_k a0 a1 k = laws_FnExactReadRange_t a0 a1 k := by
  rw [laws_FnExactReadRange_e]
  simp only [laws_FnExactReadRange_d, laws_FnExactReadRange_t, laws_FnExactReadRange_wz5000013, Sum.elim_inl, Sum.elim_inr]

end

end Go.VE
