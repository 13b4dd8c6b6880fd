/- Loops told as recursions over what is left; written by gen.py. -/

import Derived.Test.YteolgjmeigifbaaOwnScanN

import Derived.Test.YteolgjmeigifbaaP1

namespace Go.VE

noncomputable section

set_option linter.unusedVariables false
set_option linter.unusedSimpArgs false
set_option maxRecDepth 100000


def laws_szRangeS_w0 (u0 : (List dRange)) (u2 : Int) : List dRange → Int → Nat → (((Int × Int × Int) ⊕ (Int × Int)) → Option Res) → Option Res
  | [], s1, i, k =>
    k (.inr (s1, (i : Int)))
  | y :: l, s1, i, k =>
    laws_szRange_k y s1 (fun y1 =>
      bif (decide (y1 < (0 : Int))) then
        k (.inl (y1, (-1 : Int), (i : Int)))
      else
        laws_szRangeS_w0 u0 u2 l y1 (i + 1) k)

theorem laws_szRangeS_lw0 {u0} {u2} (h0 : u0.length < 9223372036854775807) {K : (((List dRange) × Int × Int × Int) ⊕ ((List dRange) × Int × Int × Int)) → Option Res} : ∀ (l : List dRange) (i : Nat) (s1 : Int) (n : Nat), u0.drop i = l → l.length < n → loopK laws_szRangeS_b0 n (u0, s1, u2, (i : Int)) K = laws_szRangeS_w0 u0 u2 l s1 i (Sum.elim (fun z => K (.inl (u0, z.1, z.2.1, z.2.2))) (fun z => K (.inr (u0, z.1, u2, z.2)))) := by
  intro l
  induction l with
  | nil =>
    intro i s1 n hd hn
    have hge := lwl_nil hd
    cases n with
    | zero => exact absurd hn (Nat.not_lt_zero _)
    | succ n => simp only [loopK, laws_szRangeS_b0, laws_szRangeS_w0, hge, decide_false, cond_false, Sum.elim_inr, Sum.elim_inl]
  | cons y l ih =>
    intro i s1 n hd hn
    obtain ⟨hlt, hz, hd2, hw, hnn⟩ := lwl_cons hd h0
    have hy := lwl_get hd
    cases n with
    | zero => exact absurd hn (Nat.not_lt_zero _)
    | succ n =>
      have ih2 := fun (s1 : Int) => ih (i + 1) s1 n hd2 (Nat.lt_of_succ_lt_succ hn)
      simp only [loopK, laws_szRangeS_b0, laws_szRangeS_w0, hlt, hz, decide_true, cond_true, and_self, if_true, hy, hw, hnn, Sum.elim_inl, Sum.elim_inr, ih2]

theorem laws_szRangeS_lz0 {u0} {u2} (h0 : u0.length < 9223372036854775807) {K : (((List dRange) × Int × Int × Int) ⊕ ((List dRange) × Int × Int × Int)) → Option Res} {s1 : Int} : loopK laws_szRangeS_b0 Fuel (u0, s1, u2, (0 : Int)) K = laws_szRangeS_w0 u0 u2 u0 s1 0 (Sum.elim (fun z => K (.inl (u0, z.1, z.2.1, z.2.2))) (fun z => K (.inr (u0, z.1, u2, z.2)))) :=
  laws_szRangeS_lw0 h0 u0 0 s1 Fuel rfl (lwl_fuel h0)

def laws_szWriteS_w0 (u0 : (List dWrite)) (u2 : Int) : List dWrite → Int → Nat → (((Int × Int × Int) ⊕ (Int × Int)) → Option Res) → Option Res
  | [], s1, i, k =>
    k (.inr (s1, (i : Int)))
  | y :: l, s1, i, k =>
    laws_szWrite_k y s1 (fun y1 =>
      bif (decide (y1 < (0 : Int))) then
        k (.inl (y1, (-1 : Int), (i : Int)))
      else
        laws_szWriteS_w0 u0 u2 l y1 (i + 1) k)

theorem laws_szWriteS_lw0 {u0} {u2} (h0 : u0.length < 9223372036854775807) {K : (((List dWrite) × Int × Int × Int) ⊕ ((List dWrite) × Int × Int × Int)) → Option Res} : ∀ (l : List dWrite) (i : Nat) (s1 : Int) (n : Nat), u0.drop i = l → l.length < n → loopK laws_szWriteS_b0 n (u0, s1, u2, (i : Int)) K = laws_szWriteS_w0 u0 u2 l s1 i (Sum.elim (fun z => K (.inl (u0, z.1, z.2.1, z.2.2))) (fun z => K (.inr (u0, z.1, u2, z.2)))) := by
  intro l
  induction l with
  | nil =>
    intro i s1 n hd hn
    have hge := lwl_nil hd
    cases n with
    | zero => exact absurd hn (Nat.not_lt_zero _)
    | succ n => simp only [loopK, laws_szWriteS_b0, laws_szWriteS_w0, hge, decide_false, cond_false, Sum.elim_inr, Sum.elim_inl]
  | cons y l ih =>
    intro i s1 n hd hn
    obtain ⟨hlt, hz, hd2, hw, hnn⟩ := lwl_cons hd h0
    have hy := lwl_get hd
    cases n with
    | zero => exact absurd hn (Nat.not_lt_zero _)
    | succ n =>
      have ih2 := fun (s1 : Int) => ih (i + 1) s1 n hd2 (Nat.lt_of_succ_lt_succ hn)
      simp only [loopK, laws_szWriteS_b0, laws_szWriteS_w0, hlt, hz, decide_true, cond_true, and_self, if_true, hy, hw, hnn, Sum.elim_inl, Sum.elim_inr, ih2]

theorem laws_szWriteS_lz0 {u0} {u2} (h0 : u0.length < 9223372036854775807) {K : (((List dWrite) × Int × Int × Int) ⊕ ((List dWrite) × Int × Int × Int)) → Option Res} {s1 : Int} : loopK laws_szWriteS_b0 Fuel (u0, s1, u2, (0 : Int)) K = laws_szWriteS_w0 u0 u2 u0 s1 0 (Sum.elim (fun z => K (.inl (u0, z.1, z.2.1, z.2.2))) (fun z => K (.inr (u0, z.1, u2, z.2)))) :=
  laws_szWriteS_lw0 h0 u0 0 s1 Fuel rfl (lwl_fuel h0)

def laws_szVersionS_w0 (u0 : (List dVersion)) (u2 : Int) : List dVersion → Int → Nat → (((Int × Int × Int) ⊕ (Int × Int)) → Option Res) → Option Res
  | [], s1, i, k =>
    k (.inr (s1, (i : Int)))
  | y :: l, s1, i, k =>
    laws_szVersion_k y s1 (fun y1 =>
      bif (decide (y1 < (0 : Int))) then
        k (.inl (y1, (-1 : Int), (i : Int)))
      else
        laws_szVersionS_w0 u0 u2 l y1 (i + 1) k)

theorem laws_szVersionS_lw0 {u0} {u2} (h0 : u0.length < 9223372036854775807) {K : (((List dVersion) × Int × Int × Int) ⊕ ((List dVersion) × Int × Int × Int)) → Option Res} : ∀ (l : List dVersion) (i : Nat) (s1 : Int) (n : Nat), u0.drop i = l → l.length < n → loopK laws_szVersionS_b0 n (u0, s1, u2, (i : Int)) K = laws_szVersionS_w0 u0 u2 l s1 i (Sum.elim (fun z => K (.inl (u0, z.1, z.2.1, z.2.2))) (fun z => K (.inr (u0, z.1, u2, z.2)))) := by
  intro l
  induction l with
  | nil =>
    intro i s1 n hd hn
    have hge := lwl_nil hd
    cases n with
    | zero => exact absurd hn (Nat.not_lt_zero _)
    | succ n => simp only [loopK, laws_szVersionS_b0, laws_szVersionS_w0, hge, decide_false, cond_false, Sum.elim_inr, Sum.elim_inl]
  | cons y l ih =>
    intro i s1 n hd hn
    obtain ⟨hlt, hz, hd2, hw, hnn⟩ := lwl_cons hd h0
    have hy := lwl_get hd
    cases n with
    | zero => exact absurd hn (Nat.not_lt_zero _)
    | succ n =>
      have ih2 := fun (s1 : Int) => ih (i + 1) s1 n hd2 (Nat.lt_of_succ_lt_succ hn)
      simp only [loopK, laws_szVersionS_b0, laws_szVersionS_w0, hlt, hz, decide_true, cond_true, and_self, if_true, hy, hw, hnn, Sum.elim_inl, Sum.elim_inr, ih2]

theorem laws_szVersionS_lz0 {u0} {u2} (h0 : u0.length < 9223372036854775807) {K : (((List dVersion) × Int × Int × Int) ⊕ ((List dVersion) × Int × Int × Int)) → Option Res} {s1 : Int} : loopK laws_szVersionS_b0 Fuel (u0, s1, u2, (0 : Int)) K = laws_szVersionS_w0 u0 u2 u0 s1 0 (Sum.elim (fun z => K (.inl (u0, z.1, z.2.1, z.2.2))) (fun z => K (.inr (u0, z.1, u2, z.2)))) :=
  laws_szVersionS_lw0 h0 u0 0 s1 Fuel rfl (lwl_fuel h0)

def laws_toRangeS_w0 (u0 : (List dRange)) : List dRange → (List dRange) → Nat → ((Int × (List dRange)) → Option Res) → Option Res
  | [], s2, i, k =>
    k ((i : Int), s2)
  | y :: l, s2, i, k =>
    laws_toRange_k y (fun y1 =>
      if 0 ≤ (i : Int) ∧ (i : Int) < (s2.length : Int) then
        laws_toRangeS_w0 u0 l (s2.set (i : Int).toNat y1) (i + 1) k
      else none)

theorem laws_toRangeS_lw0 {u0} (h0 : u0.length < 9223372036854775807) {K : ((List dRange) × Int × (List dRange)) → Option Res} : ∀ (l : List dRange) (i : Nat) (s2 : (List dRange)) (n : Nat), u0.drop i = l → l.length < n → loopK laws_toRangeS_b0 n (u0, (i : Int), s2) K = laws_toRangeS_w0 u0 l s2 i (fun z => K (u0, z.1, z.2)) := by
  intro l
  induction l with
  | nil =>
    intro i s2 n hd hn
    have hge := lwl_nil hd
    cases n with
    | zero => exact absurd hn (Nat.not_lt_zero _)
    | succ n => simp only [loopK, laws_toRangeS_b0, laws_toRangeS_w0, hge, decide_false, cond_false, Sum.elim_inr, Sum.elim_inl]
  | cons y l ih =>
    intro i s2 n hd hn
    obtain ⟨hlt, hz, hd2, hw, hnn⟩ := lwl_cons hd h0
    have hy := lwl_get hd
    cases n with
    | zero => exact absurd hn (Nat.not_lt_zero _)
    | succ n =>
      have ih2 := fun (s2 : (List dRange)) => ih (i + 1) s2 n hd2 (Nat.lt_of_succ_lt_succ hn)
      simp only [loopK, laws_toRangeS_b0, laws_toRangeS_w0, hlt, hz, decide_true, cond_true, and_self, if_true, hy, hw, hnn, Sum.elim_inl, Sum.elim_inr, ih2]

theorem laws_toRangeS_lz0 {u0} (h0 : u0.length < 9223372036854775807) {K : ((List dRange) × Int × (List dRange)) → Option Res} {s2 : (List dRange)} : loopK laws_toRangeS_b0 Fuel (u0, (0 : Int), s2) K = laws_toRangeS_w0 u0 u0 s2 0 (fun z => K (u0, z.1, z.2)) :=
  laws_toRangeS_lw0 h0 u0 0 s2 Fuel rfl (lwl_fuel h0)

def laws_toRangeS_t (a0 : (List dRange)) (k : (List dRange) → Option Res) : Option Res :=
  if 0 ≤ (a0.length : Int) ∧ (a0.length : Int) ≤ (a0.length : Int) ∧ (a0.length : Int) ≤ (VE.maxLen : Int) then
    laws_toRangeS_w0 a0 a0 (List.replicate (a0.length : Int).toNat (Ty.zero tRange)) 0 (fun z29 =>
      k z29.2)
  else none

theorem laws_toRangeS_r {a0 : (List dRange)} (h0 : a0.length < 9223372036854775807) {k : (List dRange) → Option Res} : laws_toRangeS_k a0 k = laws_toRangeS_t a0 k := by
  rw [laws_toRangeS_e]
  simp only [laws_toRangeS_d, laws_toRangeS_t, (laws_toRangeS_lz0 h0), Sum.elim_inl, Sum.elim_inr]

def laws_toWriteS_w0 (u0 : (List dWrite)) : List dWrite → (List dWrite) → Nat → ((Int × (List dWrite)) → Option Res) → Option Res
  | [], s2, i, k =>
    k ((i : Int), s2)
  | y :: l, s2, i, k =>
    laws_toWrite_k y (fun y1 =>
      if 0 ≤ (i : Int) ∧ (i : Int) < (s2.length : Int) then
        laws_toWriteS_w0 u0 l (s2.set (i : Int).toNat y1) (i + 1) k
      else none)

theorem laws_toWriteS_lw0 {u0} (h0 : u0.length < 9223372036854775807) {K : ((List dWrite) × Int × (List dWrite)) → Option Res} : ∀ (l : List dWrite) (i : Nat) (s2 : (List dWrite)) (n : Nat), u0.drop i = l → l.length < n → loopK laws_toWriteS_b0 n (u0, (i : Int), s2) K = laws_toWriteS_w0 u0 l s2 i (fun z => K (u0, z.1, z.2)) := by
  intro l
  induction l with
  | nil =>
    intro i s2 n hd hn
    have hge := lwl_nil hd
    cases n with
    | zero => exact absurd hn (Nat.not_lt_zero _)
    | succ n => simp only [loopK, laws_toWriteS_b0, laws_toWriteS_w0, hge, decide_false, cond_false, Sum.elim_inr, Sum.elim_inl]
  | cons y l ih =>
    intro i s2 n hd hn
    obtain ⟨hlt, hz, hd2, hw, hnn⟩ := lwl_cons hd h0
    have hy := lwl_get hd
    cases n with
    | zero => exact absurd hn (Nat.not_lt_zero _)
    | succ n =>
      have ih2 := fun (s2 : (List dWrite)) => ih (i + 1) s2 n hd2 (Nat.lt_of_succ_lt_succ hn)
      simp only [loopK, laws_toWriteS_b0, laws_toWriteS_w0, hlt, hz, decide_true, cond_true, and_self, if_true, hy, hw, hnn, Sum.elim_inl, Sum.elim_inr, ih2]

theorem laws_toWriteS_lz0 {u0} (h0 : u0.length < 9223372036854775807) {K : ((List dWrite) × Int × (List dWrite)) → Option Res} {s2 : (List dWrite)} : loopK laws_toWriteS_b0 Fuel (u0, (0 : Int), s2) K = laws_toWriteS_w0 u0 u0 s2 0 (fun z => K (u0, z.1, z.2)) :=
  laws_toWriteS_lw0 h0 u0 0 s2 Fuel rfl (lwl_fuel h0)

def laws_toWriteS_t (a0 : (List dWrite)) (k : (List dWrite) → Option Res) : Option Res :=
  if 0 ≤ (a0.length : Int) ∧ (a0.length : Int) ≤ (a0.length : Int) ∧ (a0.length : Int) ≤ (VE.maxLen : Int) then
    laws_toWriteS_w0 a0 a0 (List.replicate (a0.length : Int).toNat (Ty.zero tWrite)) 0 (fun z29 =>
      k z29.2)
  else none

theorem laws_toWriteS_r {a0 : (List dWrite)} (h0 : a0.length < 9223372036854775807) {k : (List dWrite) → Option Res} : laws_toWriteS_k a0 k = laws_toWriteS_t a0 k := by
  rw [laws_toWriteS_e]
  simp only [laws_toWriteS_d, laws_toWriteS_t, (laws_toWriteS_lz0 h0), Sum.elim_inl, Sum.elim_inr]

def laws_toVersionS_w0 (u0 : (List dVersion)) : List dVersion → (List dVersion) → Nat → ((Int × (List dVersion)) → Option Res) → Option Res
  | [], s2, i, k =>
    k ((i : Int), s2)
  | y :: l, s2, i, k =>
    laws_toVersion_k y (fun y1 =>
      if 0 ≤ (i : Int) ∧ (i : Int) < (s2.length : Int) then
        laws_toVersionS_w0 u0 l (s2.set (i : Int).toNat y1) (i + 1) k
      else none)

theorem laws_toVersionS_lw0 {u0} (h0 : u0.length < 9223372036854775807) {K : ((List dVersion) × Int × (List dVersion)) → Option Res} : ∀ (l : List dVersion) (i : Nat) (s2 : (List dVersion)) (n : Nat), u0.drop i = l → l.length < n → loopK laws_toVersionS_b0 n (u0, (i : Int), s2) K = laws_toVersionS_w0 u0 l s2 i (fun z => K (u0, z.1, z.2)) := by
  intro l
  induction l with
  | nil =>
    intro i s2 n hd hn
    have hge := lwl_nil hd
    cases n with
    | zero => exact absurd hn (Nat.not_lt_zero _)
    | succ n => simp only [loopK, laws_toVersionS_b0, laws_toVersionS_w0, hge, decide_false, cond_false, Sum.elim_inr, Sum.elim_inl]
  | cons y l ih =>
    intro i s2 n hd hn
    obtain ⟨hlt, hz, hd2, hw, hnn⟩ := lwl_cons hd h0
    have hy := lwl_get hd
    cases n with
    | zero => exact absurd hn (Nat.not_lt_zero _)
    | succ n =>
      have ih2 := fun (s2 : (List dVersion)) => ih (i + 1) s2 n hd2 (Nat.lt_of_succ_lt_succ hn)
      simp only [loopK, laws_toVersionS_b0, laws_toVersionS_w0, hlt, hz, decide_true, cond_true, and_self, if_true, hy, hw, hnn, Sum.elim_inl, Sum.elim_inr, ih2]

theorem laws_toVersionS_lz0 {u0} (h0 : u0.length < 9223372036854775807) {K : ((List dVersion) × Int × (List dVersion)) → Option Res} {s2 : (List dVersion)} : loopK laws_toVersionS_b0 Fuel (u0, (0 : Int), s2) K = laws_toVersionS_w0 u0 u0 s2 0 (fun z => K (u0, z.1, z.2)) :=
  laws_toVersionS_lw0 h0 u0 0 s2 Fuel rfl (lwl_fuel h0)

def laws_toVersionS_t (a0 : (List dVersion)) (k : (List dVersion) → Option Res) : Option Res :=
  if 0 ≤ (a0.length : Int) ∧ (a0.length : Int) ≤ (a0.length : Int) ∧ (a0.length : Int) ≤ (VE.maxLen : Int) then
    laws_toVersionS_w0 a0 a0 (List.replicate (a0.length : Int).toNat (Ty.zero tVersion)) 0 (fun z29 =>
      k z29.2)
  else none

theorem laws_toVersionS_r {a0 : (List dVersion)} (h0 : a0.length < 9223372036854775807) {k : (List dVersion) → Option Res} : laws_toVersionS_k a0 k = laws_toVersionS_t a0 k := by
  rw [laws_toVersionS_e]
  simp only [laws_toVersionS_d, laws_toVersionS_t, (laws_toVersionS_lz0 h0), Sum.elim_inl, Sum.elim_inr]

def spec_l06At_w0 (u0 : (List dVersion)) (u1 : ByteArray) (u2 : Int) : List dVersion → Int → Nat → ((Int × Int) → Option Res) → Option Res
  | [], s3, i, k =>
    k (s3, (i : Int))
  | y :: l, s3, i, k =>
    bif (strEq (y.1) u1) then
      bif (decide (y.2.2.2 ≤ u2)) then
        bif (decide (s3 < (0 : Int))) then
          spec_l06At_w0 u0 u1 u2 l (i : Int) (i + 1) k
        else
          if 0 ≤ s3 ∧ s3 < (u0.length : Int) then
            bif (decide (y.2.2.2 > (rd (Ty.zero tVersion) u0 s3).2.2.2)) then
              spec_l06At_w0 u0 u1 u2 l (i : Int) (i + 1) k
            else
              spec_l06At_w0 u0 u1 u2 l s3 (i + 1) k
          else none
      else
        spec_l06At_w0 u0 u1 u2 l s3 (i + 1) k
    else
      spec_l06At_w0 u0 u1 u2 l s3 (i + 1) k

theorem spec_l06At_lw0 {u0} {u1} {u2} (h0 : u0.length < 9223372036854775807) {K : ((List dVersion) × ByteArray × Int × Int × Int) → Option Res} : ∀ (l : List dVersion) (i : Nat) (s3 : Int) (n : Nat), u0.drop i = l → l.length < n → loopK spec_l06At_b0 n (u0, u1, u2, s3, (i : Int)) K = spec_l06At_w0 u0 u1 u2 l s3 i (fun z => K (u0, u1, u2, z.1, z.2)) := by
  intro l
  induction l with
  | nil =>
    intro i s3 n hd hn
    have hge := lwl_nil hd
    cases n with
    | zero => exact absurd hn (Nat.not_lt_zero _)
    | succ n => simp only [loopK, spec_l06At_b0, spec_l06At_w0, hge, decide_false, cond_false, Sum.elim_inr, Sum.elim_inl]
  | cons y l ih =>
    intro i s3 n hd hn
    obtain ⟨hlt, hz, hd2, hw, hnn⟩ := lwl_cons hd h0
    have hy := lwl_get hd
    cases n with
    | zero => exact absurd hn (Nat.not_lt_zero _)
    | succ n =>
      have ih2 := fun (s3 : Int) => ih (i + 1) s3 n hd2 (Nat.lt_of_succ_lt_succ hn)
      simp only [loopK, spec_l06At_b0, spec_l06At_w0, hlt, hz, decide_true, cond_true, and_self, if_true, hy, hw, hnn, Sum.elim_inl, Sum.elim_inr, ih2]

theorem spec_l06At_lz0 {u0} {u1} {u2} (h0 : u0.length < 9223372036854775807) {K : ((List dVersion) × ByteArray × Int × Int × Int) → Option Res} {s3 : Int} : loopK spec_l06At_b0 Fuel (u0, u1, u2, s3, (0 : Int)) K = spec_l06At_w0 u0 u1 u2 u0 s3 0 (fun z => K (u0, u1, u2, z.1, z.2)) :=
  spec_l06At_lw0 h0 u0 0 s3 Fuel rfl (lwl_fuel h0)

def spec_l06At_t (a0 : (List dVersion)) (a1 : ByteArray) (a2 : Int) (k : Int → Option Res) : Option Res :=
  spec_l06At_w0 a0 a1 a2 a0 (-1 : Int) 0 (fun z29 =>
    k z29.1)

theorem spec_l06At_r {a0 : (List dVersion)} {a1 : ByteArray} {a2 : Int} (h0 : a0.length < 9223372036854775807) {k : Int → Option Res} : spec_l06At_k a0 a1 a2 k = spec_l06At_t a0 a1 a2 k := by
  rw [spec_l06At_e]
  simp only [spec_l06At_d, spec_l06At_t, (spec_l06At_lz0 h0), Sum.elim_inl, Sum.elim_inr]

def spec_OwnGet_w0 (u0 : (List dVersion)) (u1 : ByteArray) (u2 : ByteArray) (u3 : Bool) (u5 : Int) (u6 : Int) (u7 : Int) (u8 : Int) (u9 : (List dRange)) (u10 : (List dWrite)) (u11 : Bool) (u12 : ByteArray) : List dWrite → Nat → (((ByteArray × Bool × Int) ⊕ Int) → Option Res) → Option Res
  | [], i, k =>
    k (.inr (i : Int))
  | y :: l, i, k =>
    bif (strEq (y.1) u1) then
      bif y.2.2 then
        k (.inl ((⟨#[]⟩ : ByteArray), false, (i : Int)))
      else
        k (.inl (y.2.1, true, (i : Int)))
    else
      spec_OwnGet_w0 u0 u1 u2 u3 u5 u6 u7 u8 u9 u10 u11 u12 l (i + 1) k

theorem spec_OwnGet_lw0 {u0} {u1} {u2} {u3} {u5} {u6} {u7} {u8} {u9} {u10} {u11} {u12} (h0 : u10.length < 9223372036854775807) {K : (((List dVersion) × ByteArray × ByteArray × Bool × Int × Int × Int × Int × Int × (List dRange) × (List dWrite) × Bool × ByteArray) ⊕ ((List dVersion) × ByteArray × ByteArray × Bool × Int × Int × Int × Int × Int × (List dRange) × (List dWrite) × Bool × ByteArray)) → Option Res} : ∀ (l : List dWrite) (i : Nat)  (n : Nat), u10.drop i = l → l.length < n → loopK spec_OwnGet_b0 n (u0, u1, u2, u3, (i : Int), u5, u6, u7, u8, u9, u10, u11, u12) K = spec_OwnGet_w0 u0 u1 u2 u3 u5 u6 u7 u8 u9 u10 u11 u12 l  i (Sum.elim (fun z => K (.inl (u0, u1, z.1, z.2.1, z.2.2, u5, u6, u7, u8, u9, u10, u11, u12))) (fun z => K (.inr (u0, u1, u2, u3, z, u5, u6, u7, u8, u9, u10, u11, u12)))) := by
  intro l
  induction l with
  | nil =>
    intro i  n hd hn
    have hge := lwl_nil hd
    cases n with
    | zero => exact absurd hn (Nat.not_lt_zero _)
    | succ n => simp only [loopK, spec_OwnGet_b0, spec_OwnGet_w0, hge, decide_false, cond_false, Sum.elim_inr, Sum.elim_inl]
  | cons y l ih =>
    intro i  n hd hn
    obtain ⟨hlt, hz, hd2, hw, hnn⟩ := lwl_cons hd h0
    have hy := lwl_get hd
    cases n with
    | zero => exact absurd hn (Nat.not_lt_zero _)
    | succ n =>
      have ih2 := ih (i + 1)  n hd2 (Nat.lt_of_succ_lt_succ hn)
      simp only [loopK, spec_OwnGet_b0, spec_OwnGet_w0, hlt, hz, decide_true, cond_true, and_self, if_true, hy, hw, hnn, Sum.elim_inl, Sum.elim_inr, ih2]

theorem spec_OwnGet_lz0 {u0} {u1} {u2} {u3} {u5} {u6} {u7} {u8} {u9} {u10} {u11} {u12} (h0 : u10.length < 9223372036854775807) {K : (((List dVersion) × ByteArray × ByteArray × Bool × Int × Int × Int × Int × Int × (List dRange) × (List dWrite) × Bool × ByteArray) ⊕ ((List dVersion) × ByteArray × ByteArray × Bool × Int × Int × Int × Int × Int × (List dRange) × (List dWrite) × Bool × ByteArray)) → Option Res}  : loopK spec_OwnGet_b0 Fuel (u0, u1, u2, u3, (0 : Int), u5, u6, u7, u8, u9, u10, u11, u12) K = spec_OwnGet_w0 u0 u1 u2 u3 u5 u6 u7 u8 u9 u10 u11 u12 u10  0 (Sum.elim (fun z => K (.inl (u0, u1, z.1, z.2.1, z.2.2, u5, u6, u7, u8, u9, u10, u11, u12))) (fun z => K (.inr (u0, u1, u2, u3, z, u5, u6, u7, u8, u9, u10, u11, u12)))) :=
  spec_OwnGet_lw0 h0 u10 0  Fuel rfl (lwl_fuel h0)

def spec_OwnGet_t (a0 : dTxn) (a1 : (List dVersion)) (a2 : ByteArray) (k : (ByteArray × Bool) → Option Res) : Option Res :=
  spec_OwnGet_w0 a1 a2 (⟨#[]⟩ : ByteArray) false a0.1 a0.2.1 a0.2.2.1 a0.2.2.2.1 a0.2.2.2.2.1 a0.2.2.2.2.2.1 a0.2.2.2.2.2.2.1 a0.2.2.2.2.2.2.2 a0.2.2.2.2.2.1  0 (Sum.elim (fun z29 =>
    k (z29.1, z29.2.1)) (fun _ =>
    spec_SeenAt_k a1 a2 a0.2.2.1 (fun y31 =>
      k (y31.1, y31.2))))

theorem spec_OwnGet_r {a0 : dTxn} {a1 : (List dVersion)} {a2 : ByteArray} (h0 : a0.2.2.2.2.2.1.length < 9223372036854775807) {k : (ByteArray × Bool) → Option Res} : spec_OwnGet_k a0 a1 a2 k = spec_OwnGet_t a0 a1 a2 k := by
  rw [spec_OwnGet_e]
  simp only [spec_OwnGet_d, spec_OwnGet_t, (spec_OwnGet_lz0 h0), Sum.elim_inl, Sum.elim_inr]

def spec_OwnScan_w0 (u0 : (List dVersion)) (u2 : Int) (u3 : Int) (u4 : Int) (u5 : Int) (u6 : (List dRange)) (u7 : (List dWrite)) (u8 : Bool) (u9 : ByteArray) (u10 : ByteArray) (u11 : ByteArray) : List dWrite → (List dVersion) → Nat → ((Int × (List dVersion)) → Option Res) → Option Res
  | [], s12, i, k =>
    k ((i : Int), s12)
  | y :: l, s12, i, k =>
    if s12.length + [(y.1, ((⟨#[]⟩ : ByteArray), (false, (0 : Int))))].length ≤ VE.maxLen then
      spec_OwnScan_w0 u0 u2 u3 u4 u5 u6 u7 u8 u9 u10 u11 l (s12 ++ [(y.1, ((⟨#[]⟩ : ByteArray), (false, (0 : Int))))]) (i + 1) k
    else none

theorem spec_OwnScan_lw0 {u0} {u2} {u3} {u4} {u5} {u6} {u7} {u8} {u9} {u10} {u11} (h0 : u7.length < 9223372036854775807) {K : ((List dVersion) × Int × Int × Int × Int × Int × (List dRange) × (List dWrite) × Bool × ByteArray × ByteArray × ByteArray × (List dVersion)) → Option Res} : ∀ (l : List dWrite) (i : Nat) (s12 : (List dVersion)) (n : Nat), u7.drop i = l → l.length < n → loopK spec_OwnScan_b0 n (u0, (i : Int), u2, u3, u4, u5, u6, u7, u8, u9, u10, u11, s12) K = spec_OwnScan_w0 u0 u2 u3 u4 u5 u6 u7 u8 u9 u10 u11 l s12 i (fun z => K (u0, z.1, u2, u3, u4, u5, u6, u7, u8, u9, u10, u11, z.2)) := by
  intro l
  induction l with
  | nil =>
    intro i s12 n hd hn
    have hge := lwl_nil hd
    cases n with
    | zero => exact absurd hn (Nat.not_lt_zero _)
    | succ n => simp only [loopK, spec_OwnScan_b0, spec_OwnScan_w0, hge, decide_false, cond_false, Sum.elim_inr, Sum.elim_inl]
  | cons y l ih =>
    intro i s12 n hd hn
    obtain ⟨hlt, hz, hd2, hw, hnn⟩ := lwl_cons hd h0
    have hy := lwl_get hd
    cases n with
    | zero => exact absurd hn (Nat.not_lt_zero _)
    | succ n =>
      have ih2 := fun (s12 : (List dVersion)) => ih (i + 1) s12 n hd2 (Nat.lt_of_succ_lt_succ hn)
      simp only [loopK, spec_OwnScan_b0, spec_OwnScan_w0, hlt, hz, decide_true, cond_true, and_self, if_true, hy, hw, hnn, Sum.elim_inl, Sum.elim_inr, ih2]

theorem spec_OwnScan_lz0 {u0} {u2} {u3} {u4} {u5} {u6} {u7} {u8} {u9} {u10} {u11} (h0 : u7.length < 9223372036854775807) {K : ((List dVersion) × Int × Int × Int × Int × Int × (List dRange) × (List dWrite) × Bool × ByteArray × ByteArray × ByteArray × (List dVersion)) → Option Res} {s12 : (List dVersion)} : loopK spec_OwnScan_b0 Fuel (u0, (0 : Int), u2, u3, u4, u5, u6, u7, u8, u9, u10, u11, s12) K = spec_OwnScan_w0 u0 u2 u3 u4 u5 u6 u7 u8 u9 u10 u11 u7 s12 0 (fun z => K (u0, z.1, u2, u3, u4, u5, u6, u7, u8, u9, u10, u11, z.2)) :=
  spec_OwnScan_lw0 h0 u7 0 s12 Fuel rfl (lwl_fuel h0)

def spec_OwnScan_t (a0 : dTxn) (a1 : (List dVersion)) (a2 : dRange) (k : (List dRange) → Option Res) : Option Res :=
  if ([] : List dVersion).length + a1.length ≤ VE.maxLen then
    spec_OwnScan_w0 a1 a0.1 a0.2.1 a0.2.2.1 a0.2.2.2.1 a0.2.2.2.2.1 a0.2.2.2.2.2.1 a0.2.2.2.2.2.2.1 a0.2.2.2.2.2.2.2 a2.1 a2.2 a0.2.2.2.2.2.1 (([] : List dVersion) ++ a1) 0 (fun z29 =>
      spec_l06Keys_k z29.2 a2 (fun y30 =>
        loopK spec_OwnScan_b2 Fuel (a1, (0 : Int), a0.1, a0.2.1, a0.2.2.1, a0.2.2.2.1, a0.2.2.2.2.1, a0.2.2.2.2.2.1, a0.2.2.2.2.2.2.1, a0.2.2.2.2.2.2.2, ([] : List dRange), y30) (fun z31 =>
          k z31.2.2.2.2.2.2.2.2.2.2.1)))
  else none

theorem spec_OwnScan_r {a0 : dTxn} {a1 : (List dVersion)} {a2 : dRange} (h0 : a0.2.2.2.2.2.1.length < 9223372036854775807) {k : (List dRange) → Option Res} : spec_OwnScan_k a0 a1 a2 k = spec_OwnScan_t a0 a1 a2 k := by
  rw [spec_OwnScan_e]
  simp only [spec_OwnScan_d, spec_OwnScan_t, (spec_OwnScan_lz0 h0), Sum.elim_inl, Sum.elim_inr]

def impl_keysOf_w0 (u0 : (List dVersion)) : List dVersion → (List ByteArray) → Nat → ((Int × (List ByteArray)) → Option Res) → Option Res
  | [], s3, i, k =>
    k ((i : Int), s3)
  | y :: l, s3, i, k =>
    if s3.length + [y.1].length ≤ VE.maxLen then
      impl_keysOf_w0 u0 l (s3 ++ [y.1]) (i + 1) k
    else none

theorem impl_keysOf_lw0 {u0} (h0 : u0.length < 9223372036854775807) {K : ((List dVersion) × Int × Int × (List ByteArray)) → Option Res} : ∀ (l : List dVersion) (i : Nat) (s3 : (List ByteArray)) (n : Nat), u0.drop i = l → l.length < n → loopK impl_keysOf_b0 n (u0, (u0.length : Int), (i : Int), s3) K = impl_keysOf_w0 u0 l s3 i (fun z => K (u0, (u0.length : Int), z.1, z.2)) := by
  intro l
  induction l with
  | nil =>
    intro i s3 n hd hn
    have hge := lwl_nil hd
    cases n with
    | zero => exact absurd hn (Nat.not_lt_zero _)
    | succ n => simp only [loopK, impl_keysOf_b0, impl_keysOf_w0, hge, decide_false, cond_false, Sum.elim_inr, Sum.elim_inl]
  | cons y l ih =>
    intro i s3 n hd hn
    obtain ⟨hlt, hz, hd2, hw, hnn⟩ := lwl_cons hd h0
    have hy := lwl_get hd
    cases n with
    | zero => exact absurd hn (Nat.not_lt_zero _)
    | succ n =>
      have ih2 := fun (s3 : (List ByteArray)) => ih (i + 1) s3 n hd2 (Nat.lt_of_succ_lt_succ hn)
      simp only [loopK, impl_keysOf_b0, impl_keysOf_w0, hlt, hz, decide_true, cond_true, and_self, if_true, hy, hw, hnn, Sum.elim_inl, Sum.elim_inr, ih2]

theorem impl_keysOf_lz0 {u0} (h0 : u0.length < 9223372036854775807) {K : ((List dVersion) × Int × Int × (List ByteArray)) → Option Res} {s3 : (List ByteArray)} : loopK impl_keysOf_b0 Fuel (u0, (u0.length : Int), (0 : Int), s3) K = impl_keysOf_w0 u0 u0 s3 0 (fun z => K (u0, (u0.length : Int), z.1, z.2)) :=
  impl_keysOf_lw0 h0 u0 0 s3 Fuel rfl (lwl_fuel h0)

def impl_keysOf_t (a0 : (List dVersion)) (k : (List ByteArray) → Option Res) : Option Res :=
  impl_keysOf_w0 a0 a0 ([] : List ByteArray) 0 (fun z29 =>
    slices_Sort_string_vo_k z29.2 (fun y30 =>
      slices_Compact_string_vo_k y30 (Sum.elim (fun y31 =>
        k y31) (fun y32 =>
        k y32))))

theorem impl_keysOf_r {a0 : (List dVersion)} (h0 : a0.length < 9223372036854775807) {k : (List ByteArray) → Option Res} : impl_keysOf_k a0 k = impl_keysOf_t a0 k := by
  rw [impl_keysOf_e]
  simp only [impl_keysOf_d, impl_keysOf_t, (impl_keysOf_lz0 h0), Sum.elim_inl, Sum.elim_inr]

def slices_IndexFunc_Write_ownAt_1_w0 (u0 : (List dWrite)) (u1 : Int) : List dWrite → ByteArray → Nat → (((Int × Int × ByteArray) ⊕ (Int × ByteArray)) → Option Res) → Option Res
  | [], s4, i, k =>
    k (.inr ((i : Int), s4))
  | y :: l, s4, i, k =>
    impl_ownAt_1_k y s4 (fun y1 =>
      bif y1.1 then
        k (.inl ((i : Int), (i : Int), y1.2))
      else
        slices_IndexFunc_Write_ownAt_1_w0 u0 u1 l y1.2 (i + 1) k)

theorem slices_IndexFunc_Write_ownAt_1_lw0 {u0} {u1} (h0 : u0.length < 9223372036854775807) {K : (((List dWrite) × Int × Int × Int × ByteArray) ⊕ ((List dWrite) × Int × Int × Int × ByteArray)) → Option Res} : ∀ (l : List dWrite) (i : Nat) (s4 : ByteArray) (n : Nat), u0.drop i = l → l.length < n → loopK slices_IndexFunc_Write_ownAt_1_b0 n (u0, u1, (u0.length : Int), (i : Int), s4) K = slices_IndexFunc_Write_ownAt_1_w0 u0 u1 l s4 i (Sum.elim (fun z => K (.inl (u0, z.1, (u0.length : Int), z.2.1, z.2.2))) (fun z => K (.inr (u0, u1, (u0.length : Int), z.1, z.2)))) := by
  intro l
  induction l with
  | nil =>
    intro i s4 n hd hn
    have hge := lwl_nil hd
    cases n with
    | zero => exact absurd hn (Nat.not_lt_zero _)
    | succ n => simp only [loopK, slices_IndexFunc_Write_ownAt_1_b0, slices_IndexFunc_Write_ownAt_1_w0, hge, decide_false, cond_false, Sum.elim_inr, Sum.elim_inl]
  | cons y l ih =>
    intro i s4 n hd hn
    obtain ⟨hlt, hz, hd2, hw, hnn⟩ := lwl_cons hd h0
    have hy := lwl_get hd
    cases n with
    | zero => exact absurd hn (Nat.not_lt_zero _)
    | succ n =>
      have ih2 := fun (s4 : ByteArray) => ih (i + 1) s4 n hd2 (Nat.lt_of_succ_lt_succ hn)
      simp only [loopK, slices_IndexFunc_Write_ownAt_1_b0, slices_IndexFunc_Write_ownAt_1_w0, hlt, hz, decide_true, cond_true, and_self, if_true, hy, hw, hnn, Sum.elim_inl, Sum.elim_inr, ih2]

theorem slices_IndexFunc_Write_ownAt_1_lz0 {u0} {u1} (h0 : u0.length < 9223372036854775807) {K : (((List dWrite) × Int × Int × Int × ByteArray) ⊕ ((List dWrite) × Int × Int × Int × ByteArray)) → Option Res} {s4 : ByteArray} : loopK slices_IndexFunc_Write_ownAt_1_b0 Fuel (u0, u1, (u0.length : Int), (0 : Int), s4) K = slices_IndexFunc_Write_ownAt_1_w0 u0 u1 u0 s4 0 (Sum.elim (fun z => K (.inl (u0, z.1, (u0.length : Int), z.2.1, z.2.2))) (fun z => K (.inr (u0, u1, (u0.length : Int), z.1, z.2)))) :=
  slices_IndexFunc_Write_ownAt_1_lw0 h0 u0 0 s4 Fuel rfl (lwl_fuel h0)

def slices_IndexFunc_Write_ownAt_1_t (a0 : (List dWrite)) (a1 : ByteArray) (k : (Int × ByteArray) → Option Res) : Option Res :=
  slices_IndexFunc_Write_ownAt_1_w0 a0 (0 : Int) a0 a1 0 (Sum.elim (fun z29 =>
    k (z29.1, z29.2.2)) (fun z30 =>
    k ((-1 : Int), z30.2)))

theorem slices_IndexFunc_Write_ownAt_1_r {a0 : (List dWrite)} {a1 : ByteArray} (h0 : a0.length < 9223372036854775807) {k : (Int × ByteArray) → Option Res} : slices_IndexFunc_Write_ownAt_1_k a0 a1 k = slices_IndexFunc_Write_ownAt_1_t a0 a1 k := by
  rw [slices_IndexFunc_Write_ownAt_1_e]
  simp only [slices_IndexFunc_Write_ownAt_1_d, slices_IndexFunc_Write_ownAt_1_t, (slices_IndexFunc_Write_ownAt_1_lz0 h0), Sum.elim_inl, Sum.elim_inr]

def impl_lastAt_w0 (u0 : (List dVersion)) (u1 : ByteArray) (u2 : Int) (u4 : (List dVersion)) : List dVersion → Int → Nat → ((Int × Int) → Option Res) → Option Res
  | [], s3, i, k =>
    k (s3, (i : Int))
  | y :: l, s3, i, k =>
    bif (strEq (y.1) u1) then
      bif (decide (y.2.2.2 ≤ u2)) then
        bif (decide (s3 < (0 : Int))) then
          impl_lastAt_w0 u0 u1 u2 u4 l (i : Int) (i + 1) k
        else
          if 0 ≤ s3 ∧ s3 < (u0.length : Int) then
            bif (decide (y.2.2.2 > (rd (Ty.zero tVersion) u0 s3).2.2.2)) then
              impl_lastAt_w0 u0 u1 u2 u4 l (i : Int) (i + 1) k
            else
              impl_lastAt_w0 u0 u1 u2 u4 l s3 (i + 1) k
          else none
      else
        impl_lastAt_w0 u0 u1 u2 u4 l s3 (i + 1) k
    else
      impl_lastAt_w0 u0 u1 u2 u4 l s3 (i + 1) k

theorem impl_lastAt_lw0 {u0} {u1} {u2} {u4} (h0 : u4.length < 9223372036854775807) {K : ((List dVersion) × ByteArray × Int × Int × (List dVersion) × Int × Int) → Option Res} : ∀ (l : List dVersion) (i : Nat) (s3 : Int) (n : Nat), u4.drop i = l → l.length < n → loopK impl_lastAt_b0 n (u0, u1, u2, s3, u4, (u4.length : Int), (i : Int)) K = impl_lastAt_w0 u0 u1 u2 u4 l s3 i (fun z => K (u0, u1, u2, z.1, u4, (u4.length : Int), z.2)) := by
  intro l
  induction l with
  | nil =>
    intro i s3 n hd hn
    have hge := lwl_nil hd
    cases n with
    | zero => exact absurd hn (Nat.not_lt_zero _)
    | succ n => simp only [loopK, impl_lastAt_b0, impl_lastAt_w0, hge, decide_false, cond_false, Sum.elim_inr, Sum.elim_inl]
  | cons y l ih =>
    intro i s3 n hd hn
    obtain ⟨hlt, hz, hd2, hw, hnn⟩ := lwl_cons hd h0
    have hy := lwl_get hd
    cases n with
    | zero => exact absurd hn (Nat.not_lt_zero _)
    | succ n =>
      have ih2 := fun (s3 : Int) => ih (i + 1) s3 n hd2 (Nat.lt_of_succ_lt_succ hn)
      simp only [loopK, impl_lastAt_b0, impl_lastAt_w0, hlt, hz, decide_true, cond_true, and_self, if_true, hy, hw, hnn, Sum.elim_inl, Sum.elim_inr, ih2]

theorem impl_lastAt_lz0 {u0} {u1} {u2} {u4} (h0 : u4.length < 9223372036854775807) {K : ((List dVersion) × ByteArray × Int × Int × (List dVersion) × Int × Int) → Option Res} {s3 : Int} : loopK impl_lastAt_b0 Fuel (u0, u1, u2, s3, u4, (u4.length : Int), (0 : Int)) K = impl_lastAt_w0 u0 u1 u2 u4 u4 s3 0 (fun z => K (u0, u1, u2, z.1, u4, (u4.length : Int), z.2)) :=
  impl_lastAt_lw0 h0 u4 0 s3 Fuel rfl (lwl_fuel h0)

def impl_lastAt_t (a0 : (List dVersion)) (a1 : ByteArray) (a2 : Int) (k : Int → Option Res) : Option Res :=
  impl_lastAt_w0 a0 a1 a2 a0 a0 (-1 : Int) 0 (fun z29 =>
    k z29.1)

theorem impl_lastAt_r {a0 : (List dVersion)} {a1 : ByteArray} {a2 : Int} (h0 : a0.length < 9223372036854775807) {k : Int → Option Res} : impl_lastAt_k a0 a1 a2 k = impl_lastAt_t a0 a1 a2 k := by
  rw [impl_lastAt_e]
  simp only [impl_lastAt_d, impl_lastAt_t, (impl_lastAt_lz0 h0), Sum.elim_inl, Sum.elim_inr]

def impl_OwnScan_w0 (u0 : (List dVersion)) (u1 : (List dWrite)) (u4 : Int) (u5 : Int) (u6 : Int) (u7 : Int) (u8 : (List dRange)) (u9 : (List dWrite)) (u10 : Bool) (u11 : ByteArray) (u12 : ByteArray) (u13 : ByteArray) : List dWrite → (List ByteArray) → Nat → ((Int × (List ByteArray)) → Option Res) → Option Res
  | [], s14, i, k =>
    k ((i : Int), s14)
  | y :: l, s14, i, k =>
    if s14.length + [y.1].length ≤ VE.maxLen then
      impl_OwnScan_w0 u0 u1 u4 u5 u6 u7 u8 u9 u10 u11 u12 u13 l (s14 ++ [y.1]) (i + 1) k
    else none

theorem impl_OwnScan_lw0 {u0} {u1} {u4} {u5} {u6} {u7} {u8} {u9} {u10} {u11} {u12} {u13} (h0 : u1.length < 9223372036854775807) {K : ((List dVersion) × (List dWrite) × Int × Int × Int × Int × Int × Int × (List dRange) × (List dWrite) × Bool × ByteArray × ByteArray × ByteArray × (List ByteArray)) → Option Res} : ∀ (l : List dWrite) (i : Nat) (s14 : (List ByteArray)) (n : Nat), u1.drop i = l → l.length < n → loopK impl_OwnScan_b0 n (u0, u1, (u1.length : Int), (i : Int), u4, u5, u6, u7, u8, u9, u10, u11, u12, u13, s14) K = impl_OwnScan_w0 u0 u1 u4 u5 u6 u7 u8 u9 u10 u11 u12 u13 l s14 i (fun z => K (u0, u1, (u1.length : Int), z.1, u4, u5, u6, u7, u8, u9, u10, u11, u12, u13, z.2)) := by
  intro l
  induction l with
  | nil =>
    intro i s14 n hd hn
    have hge := lwl_nil hd
    cases n with
    | zero => exact absurd hn (Nat.not_lt_zero _)
    | succ n => simp only [loopK, impl_OwnScan_b0, impl_OwnScan_w0, hge, decide_false, cond_false, Sum.elim_inr, Sum.elim_inl]
  | cons y l ih =>
    intro i s14 n hd hn
    obtain ⟨hlt, hz, hd2, hw, hnn⟩ := lwl_cons hd h0
    have hy := lwl_get hd
    cases n with
    | zero => exact absurd hn (Nat.not_lt_zero _)
    | succ n =>
      have ih2 := fun (s14 : (List ByteArray)) => ih (i + 1) s14 n hd2 (Nat.lt_of_succ_lt_succ hn)
      simp only [loopK, impl_OwnScan_b0, impl_OwnScan_w0, hlt, hz, decide_true, cond_true, and_self, if_true, hy, hw, hnn, Sum.elim_inl, Sum.elim_inr, ih2]

theorem impl_OwnScan_lz0 {u0} {u1} {u4} {u5} {u6} {u7} {u8} {u9} {u10} {u11} {u12} {u13} (h0 : u1.length < 9223372036854775807) {K : ((List dVersion) × (List dWrite) × Int × Int × Int × Int × Int × Int × (List dRange) × (List dWrite) × Bool × ByteArray × ByteArray × ByteArray × (List ByteArray)) → Option Res} {s14 : (List ByteArray)} : loopK impl_OwnScan_b0 Fuel (u0, u1, (u1.length : Int), (0 : Int), u4, u5, u6, u7, u8, u9, u10, u11, u12, u13, s14) K = impl_OwnScan_w0 u0 u1 u4 u5 u6 u7 u8 u9 u10 u11 u12 u13 u1 s14 0 (fun z => K (u0, u1, (u1.length : Int), z.1, u4, u5, u6, u7, u8, u9, u10, u11, u12, u13, z.2)) :=
  impl_OwnScan_lw0 h0 u1 0 s14 Fuel rfl (lwl_fuel h0)

def impl_OwnScan_t (a0 : dTxn) (a1 : (List dVersion)) (a2 : dRange) (k : (List dRange) → Option Res) : Option Res :=
  impl_keysOf_k a1 (fun y29 =>
    impl_OwnScan_w0 a1 a0.2.2.2.2.2.1 a0.1 a0.2.1 a0.2.2.1 a0.2.2.2.1 a0.2.2.2.2.1 a0.2.2.2.2.2.1 a0.2.2.2.2.2.2.1 a0.2.2.2.2.2.2.2 a2.1 a2.2 a0.2.2.2.2.2.1 y29 0 (fun z30 =>
      slices_Sort_string_vo_k z30.2 (fun y31 =>
        slices_Compact_string_vo_k y31 (Sum.elim (fun y32 =>
          loopK impl_OwnScan_b2 Fuel (a1, (y32.length : Int), (0 : Int), a0.1, a0.2.1, a0.2.2.1, a0.2.2.2.1, a0.2.2.2.2.1, a0.2.2.2.2.2.1, a0.2.2.2.2.2.2.1, a0.2.2.2.2.2.2.2, a2.1, a2.2, ([] : List dRange), y32) (fun z33 =>
            k z33.2.2.2.2.2.2.2.2.2.2.2.2.2.1)) (fun y34 =>
          loopK impl_OwnScan_b2 Fuel (a1, (y34.length : Int), (0 : Int), a0.1, a0.2.1, a0.2.2.1, a0.2.2.2.1, a0.2.2.2.2.1, a0.2.2.2.2.2.1, a0.2.2.2.2.2.2.1, a0.2.2.2.2.2.2.2, a2.1, a2.2, ([] : List dRange), y34) (fun z35 =>
            k z35.2.2.2.2.2.2.2.2.2.2.2.2.2.1))))))

theorem impl_OwnScan_r {a0 : dTxn} {a1 : (List dVersion)} {a2 : dRange} (h0 : a0.2.2.2.2.2.1.length < 9223372036854775807) {k : (List dRange) → Option Res} : impl_OwnScan_k a0 a1 a2 k = impl_OwnScan_t a0 a1 a2 k := by
  rw [impl_OwnScan_e]
  simp only [impl_OwnScan_d, impl_OwnScan_t, (impl_OwnScan_lz0 h0), Sum.elim_inl, Sum.elim_inr]

def laws_eqPairS_w0 (u0 : (List dRange)) (u1 : (List dRange)) (u2 : Bool) : List dRange → Nat → (((Bool × Int) ⊕ Int) → Option Res) → Option Res
  | [], i, k =>
    k (.inr (i : Int))
  | y :: l, i, k =>
    if 0 ≤ (i : Int) ∧ (i : Int) < (u1.length : Int) then
      laws_eqPair_k y (rd (Ty.zero tRange) u1 (i : Int)) (fun y1 =>
        bif (!y1) then
          k (.inl (false, (i : Int)))
        else
          laws_eqPairS_w0 u0 u1 u2 l (i + 1) k)
    else none

theorem laws_eqPairS_lw0 {u0} {u1} {u2} (h0 : u0.length < 9223372036854775807) {K : (((List dRange) × (List dRange) × Bool × Int) ⊕ ((List dRange) × (List dRange) × Bool × Int)) → Option Res} : ∀ (l : List dRange) (i : Nat)  (n : Nat), u0.drop i = l → l.length < n → loopK laws_eqPairS_b0 n (u0, u1, u2, (i : Int)) K = laws_eqPairS_w0 u0 u1 u2 l  i (Sum.elim (fun z => K (.inl (u0, u1, z.1, z.2))) (fun z => K (.inr (u0, u1, u2, z)))) := by
  intro l
  induction l with
  | nil =>
    intro i  n hd hn
    have hge := lwl_nil hd
    cases n with
    | zero => exact absurd hn (Nat.not_lt_zero _)
    | succ n => simp only [loopK, laws_eqPairS_b0, laws_eqPairS_w0, hge, decide_false, cond_false, Sum.elim_inr, Sum.elim_inl]
  | cons y l ih =>
    intro i  n hd hn
    obtain ⟨hlt, hz, hd2, hw, hnn⟩ := lwl_cons hd h0
    have hy := lwl_get hd
    cases n with
    | zero => exact absurd hn (Nat.not_lt_zero _)
    | succ n =>
      have ih2 := ih (i + 1)  n hd2 (Nat.lt_of_succ_lt_succ hn)
      simp only [loopK, laws_eqPairS_b0, laws_eqPairS_w0, hlt, hz, decide_true, cond_true, and_self, if_true, hy, hw, hnn, Sum.elim_inl, Sum.elim_inr, ih2]

theorem laws_eqPairS_lz0 {u0} {u1} {u2} (h0 : u0.length < 9223372036854775807) {K : (((List dRange) × (List dRange) × Bool × Int) ⊕ ((List dRange) × (List dRange) × Bool × Int)) → Option Res}  : loopK laws_eqPairS_b0 Fuel (u0, u1, u2, (0 : Int)) K = laws_eqPairS_w0 u0 u1 u2 u0  0 (Sum.elim (fun z => K (.inl (u0, u1, z.1, z.2))) (fun z => K (.inr (u0, u1, u2, z)))) :=
  laws_eqPairS_lw0 h0 u0 0  Fuel rfl (lwl_fuel h0)

def laws_eqPairS_t (a0 : (List dRange)) (a1 : (List dRange)) (k : Bool → Option Res) : Option Res :=
  bif ((a0.length : Int) != (a1.length : Int)) then
    k false
  else
    laws_eqPairS_w0 a0 a1 false a0  0 (Sum.elim (fun z29 =>
      k z29.1) (fun _ =>
      k true))

theorem laws_eqPairS_r {a0 : (List dRange)} {a1 : (List dRange)} (h0 : a0.length < 9223372036854775807) {k : Bool → Option Res} : laws_eqPairS_k a0 a1 k = laws_eqPairS_t a0 a1 k := by
  rw [laws_eqPairS_e]
  simp only [laws_eqPairS_d, laws_eqPairS_t, (laws_eqPairS_lz0 h0), Sum.elim_inl, Sum.elim_inr]

def laws_eqRangeS_w0 (u0 : (List dRange)) (u1 : (List dRange)) (u2 : Bool) : List dRange → Nat → (((Bool × Int) ⊕ Int) → Option Res) → Option Res
  | [], i, k =>
    k (.inr (i : Int))
  | y :: l, i, k =>
    if 0 ≤ (i : Int) ∧ (i : Int) < (u1.length : Int) then
      laws_eqRange_k y (rd (Ty.zero tRange) u1 (i : Int)) (fun y1 =>
        bif (!y1) then
          k (.inl (false, (i : Int)))
        else
          laws_eqRangeS_w0 u0 u1 u2 l (i + 1) k)
    else none

theorem laws_eqRangeS_lw0 {u0} {u1} {u2} (h0 : u0.length < 9223372036854775807) {K : (((List dRange) × (List dRange) × Bool × Int) ⊕ ((List dRange) × (List dRange) × Bool × Int)) → Option Res} : ∀ (l : List dRange) (i : Nat)  (n : Nat), u0.drop i = l → l.length < n → loopK laws_eqRangeS_b0 n (u0, u1, u2, (i : Int)) K = laws_eqRangeS_w0 u0 u1 u2 l  i (Sum.elim (fun z => K (.inl (u0, u1, z.1, z.2))) (fun z => K (.inr (u0, u1, u2, z)))) := by
  intro l
  induction l with
  | nil =>
    intro i  n hd hn
    have hge := lwl_nil hd
    cases n with
    | zero => exact absurd hn (Nat.not_lt_zero _)
    | succ n => simp only [loopK, laws_eqRangeS_b0, laws_eqRangeS_w0, hge, decide_false, cond_false, Sum.elim_inr, Sum.elim_inl]
  | cons y l ih =>
    intro i  n hd hn
    obtain ⟨hlt, hz, hd2, hw, hnn⟩ := lwl_cons hd h0
    have hy := lwl_get hd
    cases n with
    | zero => exact absurd hn (Nat.not_lt_zero _)
    | succ n =>
      have ih2 := ih (i + 1)  n hd2 (Nat.lt_of_succ_lt_succ hn)
      simp only [loopK, laws_eqRangeS_b0, laws_eqRangeS_w0, hlt, hz, decide_true, cond_true, and_self, if_true, hy, hw, hnn, Sum.elim_inl, Sum.elim_inr, ih2]

theorem laws_eqRangeS_lz0 {u0} {u1} {u2} (h0 : u0.length < 9223372036854775807) {K : (((List dRange) × (List dRange) × Bool × Int) ⊕ ((List dRange) × (List dRange) × Bool × Int)) → Option Res}  : loopK laws_eqRangeS_b0 Fuel (u0, u1, u2, (0 : Int)) K = laws_eqRangeS_w0 u0 u1 u2 u0  0 (Sum.elim (fun z => K (.inl (u0, u1, z.1, z.2))) (fun z => K (.inr (u0, u1, u2, z)))) :=
  laws_eqRangeS_lw0 h0 u0 0  Fuel rfl (lwl_fuel h0)

def laws_eqRangeS_t (a0 : (List dRange)) (a1 : (List dRange)) (k : Bool → Option Res) : Option Res :=
  bif ((a0.length : Int) != (a1.length : Int)) then
    k false
  else
    laws_eqRangeS_w0 a0 a1 false a0  0 (Sum.elim (fun z29 =>
      k z29.1) (fun _ =>
      k true))

theorem laws_eqRangeS_r {a0 : (List dRange)} {a1 : (List dRange)} (h0 : a0.length < 9223372036854775807) {k : Bool → Option Res} : laws_eqRangeS_k a0 a1 k = laws_eqRangeS_t a0 a1 k := by
  rw [laws_eqRangeS_e]
  simp only [laws_eqRangeS_d, laws_eqRangeS_t, (laws_eqRangeS_lz0 h0), Sum.elim_inl, Sum.elim_inr]

def laws_eqWriteS_w0 (u0 : (List dWrite)) (u1 : (List dWrite)) (u2 : Bool) : List dWrite → Nat → (((Bool × Int) ⊕ Int) → Option Res) → Option Res
  | [], i, k =>
    k (.inr (i : Int))
  | y :: l, i, k =>
    if 0 ≤ (i : Int) ∧ (i : Int) < (u1.length : Int) then
      laws_eqWrite_k y (rd (Ty.zero tWrite) u1 (i : Int)) (fun y1 =>
        bif (!y1) then
          k (.inl (false, (i : Int)))
        else
          laws_eqWriteS_w0 u0 u1 u2 l (i + 1) k)
    else none

theorem laws_eqWriteS_lw0 {u0} {u1} {u2} (h0 : u0.length < 9223372036854775807) {K : (((List dWrite) × (List dWrite) × Bool × Int) ⊕ ((List dWrite) × (List dWrite) × Bool × Int)) → Option Res} : ∀ (l : List dWrite) (i : Nat)  (n : Nat), u0.drop i = l → l.length < n → loopK laws_eqWriteS_b0 n (u0, u1, u2, (i : Int)) K = laws_eqWriteS_w0 u0 u1 u2 l  i (Sum.elim (fun z => K (.inl (u0, u1, z.1, z.2))) (fun z => K (.inr (u0, u1, u2, z)))) := by
  intro l
  induction l with
  | nil =>
    intro i  n hd hn
    have hge := lwl_nil hd
    cases n with
    | zero => exact absurd hn (Nat.not_lt_zero _)
    | succ n => simp only [loopK, laws_eqWriteS_b0, laws_eqWriteS_w0, hge, decide_false, cond_false, Sum.elim_inr, Sum.elim_inl]
  | cons y l ih =>
    intro i  n hd hn
    obtain ⟨hlt, hz, hd2, hw, hnn⟩ := lwl_cons hd h0
    have hy := lwl_get hd
    cases n with
    | zero => exact absurd hn (Nat.not_lt_zero _)
    | succ n =>
      have ih2 := ih (i + 1)  n hd2 (Nat.lt_of_succ_lt_succ hn)
      simp only [loopK, laws_eqWriteS_b0, laws_eqWriteS_w0, hlt, hz, decide_true, cond_true, and_self, if_true, hy, hw, hnn, Sum.elim_inl, Sum.elim_inr, ih2]

theorem laws_eqWriteS_lz0 {u0} {u1} {u2} (h0 : u0.length < 9223372036854775807) {K : (((List dWrite) × (List dWrite) × Bool × Int) ⊕ ((List dWrite) × (List dWrite) × Bool × Int)) → Option Res}  : loopK laws_eqWriteS_b0 Fuel (u0, u1, u2, (0 : Int)) K = laws_eqWriteS_w0 u0 u1 u2 u0  0 (Sum.elim (fun z => K (.inl (u0, u1, z.1, z.2))) (fun z => K (.inr (u0, u1, u2, z)))) :=
  laws_eqWriteS_lw0 h0 u0 0  Fuel rfl (lwl_fuel h0)

def laws_eqWriteS_t (a0 : (List dWrite)) (a1 : (List dWrite)) (k : Bool → Option Res) : Option Res :=
  bif ((a0.length : Int) != (a1.length : Int)) then
    k false
  else
    laws_eqWriteS_w0 a0 a1 false a0  0 (Sum.elim (fun z29 =>
      k z29.1) (fun _ =>
      k true))

theorem laws_eqWriteS_r {a0 : (List dWrite)} {a1 : (List dWrite)} (h0 : a0.length < 9223372036854775807) {k : Bool → Option Res} : laws_eqWriteS_k a0 a1 k = laws_eqWriteS_t a0 a1 k := by
  rw [laws_eqWriteS_e]
  simp only [laws_eqWriteS_d, laws_eqWriteS_t, (laws_eqWriteS_lz0 h0), Sum.elim_inl, Sum.elim_inr]

def laws_eqVersionS_w0 (u0 : (List dVersion)) (u1 : (List dVersion)) (u2 : Bool) : List dVersion → Nat → (((Bool × Int) ⊕ Int) → Option Res) → Option Res
  | [], i, k =>
    k (.inr (i : Int))
  | y :: l, i, k =>
    if 0 ≤ (i : Int) ∧ (i : Int) < (u1.length : Int) then
      laws_eqVersion_k y (rd (Ty.zero tVersion) u1 (i : Int)) (fun y1 =>
        bif (!y1) then
          k (.inl (false, (i : Int)))
        else
          laws_eqVersionS_w0 u0 u1 u2 l (i + 1) k)
    else none

theorem laws_eqVersionS_lw0 {u0} {u1} {u2} (h0 : u0.length < 9223372036854775807) {K : (((List dVersion) × (List dVersion) × Bool × Int) ⊕ ((List dVersion) × (List dVersion) × Bool × Int)) → Option Res} : ∀ (l : List dVersion) (i : Nat)  (n : Nat), u0.drop i = l → l.length < n → loopK laws_eqVersionS_b0 n (u0, u1, u2, (i : Int)) K = laws_eqVersionS_w0 u0 u1 u2 l  i (Sum.elim (fun z => K (.inl (u0, u1, z.1, z.2))) (fun z => K (.inr (u0, u1, u2, z)))) := by
  intro l
  induction l with
  | nil =>
    intro i  n hd hn
    have hge := lwl_nil hd
    cases n with
    | zero => exact absurd hn (Nat.not_lt_zero _)
    | succ n => simp only [loopK, laws_eqVersionS_b0, laws_eqVersionS_w0, hge, decide_false, cond_false, Sum.elim_inr, Sum.elim_inl]
  | cons y l ih =>
    intro i  n hd hn
    obtain ⟨hlt, hz, hd2, hw, hnn⟩ := lwl_cons hd h0
    have hy := lwl_get hd
    cases n with
    | zero => exact absurd hn (Nat.not_lt_zero _)
    | succ n =>
      have ih2 := ih (i + 1)  n hd2 (Nat.lt_of_succ_lt_succ hn)
      simp only [loopK, laws_eqVersionS_b0, laws_eqVersionS_w0, hlt, hz, decide_true, cond_true, and_self, if_true, hy, hw, hnn, Sum.elim_inl, Sum.elim_inr, ih2]

theorem laws_eqVersionS_lz0 {u0} {u1} {u2} (h0 : u0.length < 9223372036854775807) {K : (((List dVersion) × (List dVersion) × Bool × Int) ⊕ ((List dVersion) × (List dVersion) × Bool × Int)) → Option Res}  : loopK laws_eqVersionS_b0 Fuel (u0, u1, u2, (0 : Int)) K = laws_eqVersionS_w0 u0 u1 u2 u0  0 (Sum.elim (fun z => K (.inl (u0, u1, z.1, z.2))) (fun z => K (.inr (u0, u1, u2, z)))) :=
  laws_eqVersionS_lw0 h0 u0 0  Fuel rfl (lwl_fuel h0)

def laws_eqVersionS_t (a0 : (List dVersion)) (a1 : (List dVersion)) (k : Bool → Option Res) : Option Res :=
  bif ((a0.length : Int) != (a1.length : Int)) then
    k false
  else
    laws_eqVersionS_w0 a0 a1 false a0  0 (Sum.elim (fun z29 =>
      k z29.1) (fun _ =>
      k true))

theorem laws_eqVersionS_r {a0 : (List dVersion)} {a1 : (List dVersion)} (h0 : a0.length < 9223372036854775807) {k : Bool → Option Res} : laws_eqVersionS_k a0 a1 k = laws_eqVersionS_t a0 a1 k := by
  rw [laws_eqVersionS_e]
  simp only [laws_eqVersionS_d, laws_eqVersionS_t, (laws_eqVersionS_lz0 h0), Sum.elim_inl, Sum.elim_inr]

def laws_heldPairS_w0 (u0 : (List dRange)) (u2 : Int) : List dRange → Int → Nat → (((Int × Int × Int) ⊕ (Int × Int)) → Option Res) → Option Res
  | [], s1, i, k =>
    k (.inr (s1, (i : Int)))
  | y :: l, s1, i, k =>
    laws_markText_k s1 (fun y1 =>
      bif (!(strEq (y.1) y1)) then
        k (.inl (s1, (-1 : Int), (i : Int)))
      else
        laws_markText_k (IntKind.wrap .i64 (s1 + (1 : Int))) (fun y2 =>
          bif (!(strEq (y.2) y2)) then
            k (.inl ((IntKind.wrap .i64 (s1 + (1 : Int))), (-1 : Int), (i : Int)))
          else
            laws_heldPairS_w0 u0 u2 l (IntKind.wrap .i64 ((IntKind.wrap .i64 (s1 + (1 : Int))) + (1 : Int))) (i + 1) k))

theorem laws_heldPairS_lw0 {u0} {u2} (h0 : u0.length < 9223372036854775807) {K : (((List dRange) × Int × Int × Int) ⊕ ((List dRange) × Int × Int × Int)) → Option Res} : ∀ (l : List dRange) (i : Nat) (s1 : Int) (n : Nat), u0.drop i = l → l.length < n → loopK laws_heldPairS_b0 n (u0, s1, u2, (i : Int)) K = laws_heldPairS_w0 u0 u2 l s1 i (Sum.elim (fun z => K (.inl (u0, z.1, z.2.1, z.2.2))) (fun z => K (.inr (u0, z.1, u2, z.2)))) := by
  intro l
  induction l with
  | nil =>
    intro i s1 n hd hn
    have hge := lwl_nil hd
    cases n with
    | zero => exact absurd hn (Nat.not_lt_zero _)
    | succ n => simp only [loopK, laws_heldPairS_b0, laws_heldPairS_w0, hge, decide_false, cond_false, Sum.elim_inr, Sum.elim_inl]
  | cons y l ih =>
    intro i s1 n hd hn
    obtain ⟨hlt, hz, hd2, hw, hnn⟩ := lwl_cons hd h0
    have hy := lwl_get hd
    cases n with
    | zero => exact absurd hn (Nat.not_lt_zero _)
    | succ n =>
      have ih2 := fun (s1 : Int) => ih (i + 1) s1 n hd2 (Nat.lt_of_succ_lt_succ hn)
      simp only [loopK, laws_heldPairS_b0, laws_heldPairS_w0, hlt, hz, decide_true, cond_true, and_self, if_true, hy, hw, hnn, Sum.elim_inl, Sum.elim_inr, ih2]

theorem laws_heldPairS_lz0 {u0} {u2} (h0 : u0.length < 9223372036854775807) {K : (((List dRange) × Int × Int × Int) ⊕ ((List dRange) × Int × Int × Int)) → Option Res} {s1 : Int} : loopK laws_heldPairS_b0 Fuel (u0, s1, u2, (0 : Int)) K = laws_heldPairS_w0 u0 u2 u0 s1 0 (Sum.elim (fun z => K (.inl (u0, z.1, z.2.1, z.2.2))) (fun z => K (.inr (u0, z.1, u2, z.2)))) :=
  laws_heldPairS_lw0 h0 u0 0 s1 Fuel rfl (lwl_fuel h0)

def laws_heldPairS_t (a0 : (List dRange)) (a1 : Int) (k : Int → Option Res) : Option Res :=
  laws_heldPairS_w0 a0 (0 : Int) a0 a1 0 (Sum.elim (fun z29 =>
    k z29.2.1) (fun z30 =>
    k z30.1))

theorem laws_heldPairS_r {a0 : (List dRange)} {a1 : Int} (h0 : a0.length < 9223372036854775807) {k : Int → Option Res} : laws_heldPairS_k a0 a1 k = laws_heldPairS_t a0 a1 k := by
  rw [laws_heldPairS_e]
  simp only [laws_heldPairS_d, laws_heldPairS_t, (laws_heldPairS_lz0 h0), Sum.elim_inl, Sum.elim_inr]

def laws_FnExactOwnScan_wj5000026 (u0 : (List dVersion)) (u1 : Bool) (u2 : Int) (u3 : Int) (u4 : Int) (u5 : Int) (u6 : (List dRange)) (u7 : (List dWrite)) (u8 : Bool) (u9 : ByteArray) (u10 : ByteArray) (u11 : ByteArray) (u12 : (List dRange)) (u13 : (List dRange)) (k : (Bool × (List dRange)) → Option Res) : Option Res :=
    laws_markPairS_vo_k (1 : Int) u13 (fun y1 =>
      laws_heldPairS_k y1.2 (1 : Int) (fun y2 =>
        bif (decide (y2 < (0 : Int))) then
          k (false, y1.2)
        else
          bif (y2 != y1.1) then
            k (false, y1.2)
          else
            laws_toTxn_k (u2, (u3, (u4, (u5, (u6, (u7, (u8, u9))))))) (fun y3 =>
              laws_toVersionS_k u0 (fun y4 =>
                laws_toRange_k (u10, u11) (fun y5 =>
                  impl_OwnScan_k (y3.1, (y3.2.1, (y3.2.2.1, (y3.2.2.2.1, (y3.2.2.2.2.2.2.1, (y3.2.2.2.2.2.2.2, (y3.2.2.2.2.1, y3.2.2.2.2.2.1))))))) y4 y5 (fun y6 =>
                    laws_eqPairS_k y6 u12 (fun y7 =>
                      bif (!y7) then
                        k (false, y1.2)
                      else
                        laws_heldPairS_k y1.2 (1 : Int) (fun y8 =>
                          bif (decide (y8 < (0 : Int))) then
                            k (false, y1.2)
                          else
                            bif (y8 != y1.1) then
                              k (false, y1.2)
                            else
                              k (true, y1.2)))))))))

theorem laws_FnExactOwnScan_wz5000026 {u0} {u1} {u2} {u3} {u4} {u5} {u6} {u7} {u8} {u9} {u10} {u11} {u12} {u13}  {K : ((List dVersion) × Bool × Int × Int × Int × Int × (List dRange) × (List dWrite) × Bool × ByteArray × ByteArray × ByteArray × (List dRange) × (List dRange)) → Option Res} : laws_FnExactOwnScan_j5000026 (u0, u1, u2, u3, u4, u5, u6, u7, u8, u9, u10, u11, u12, u13) K = laws_FnExactOwnScan_wj5000026 u0 u1 u2 u3 u4 u5 u6 u7 u8 u9 u10 u11 u12 u13 (fun z => K (u0, z.1, u2, u3, u4, u5, u6, u7, u8, u9, u10, u11, u12, z.2)) := by
  simp only [laws_FnExactOwnScan_j5000026, laws_FnExactOwnScan_wj5000026, Sum.elim_inl, Sum.elim_inr]

def laws_FnExactOwnScan_t (a0 : dTxn) (a1 : (List dVersion)) (a2 : dRange) (k : Bool → Option Res) : Option Res :=
  laws_szTxn_k a0 (1048576 : Int) (fun y29 =>
    bif (decide (y29 < (0 : Int))) then
      k true
    else
      laws_szVersionS_k a1 y29 (fun y30 =>
        bif (decide (y30 < (0 : Int))) then
          k true
        else
          laws_szRange_k a2 y30 (fun y31 =>
            bif (decide (y31 < (0 : Int))) then
              k true
            else
              laws_toTxn_k a0 (fun y32 =>
                laws_toVersionS_k a1 (fun y33 =>
                  laws_toRange_k a2 (fun y34 =>
                    spec_OwnScan_k (y32.1, (y32.2.1, (y32.2.2.1, (y32.2.2.2.1, (y32.2.2.2.2.2.2.1, (y32.2.2.2.2.2.2.2, (y32.2.2.2.2.1, y32.2.2.2.2.2.1))))))) y33 y34 (fun y35 =>
                      laws_toTxn_k a0 (fun y36 =>
                        laws_toVersionS_k a1 (fun y37 =>
                          laws_toRange_k a2 (fun y38 =>
                            impl_OwnScan_k (y36.1, (y36.2.1, (y36.2.2.1, (y36.2.2.2.1, (y36.2.2.2.2.2.2.1, (y36.2.2.2.2.2.2.2, (y36.2.2.2.2.1, y36.2.2.2.2.2.1))))))) y37 y38 (fun y39 =>
                              laws_eqPairS_k y39 y35 (fun y40 =>
                                bif (!y40) then
                                  k false
                                else
                                  laws_toTxn_k a0 (fun y41 =>
                                    laws_eqTxn_k (y36.1, (y36.2.1, (y36.2.2.1, (y36.2.2.2.1, (y36.2.2.2.2.2.2.1, (y36.2.2.2.2.2.2.2, (y36.2.2.2.2.1, y36.2.2.2.2.2.1))))))) (y41.1, (y41.2.1, (y41.2.2.1, (y41.2.2.2.1, (y41.2.2.2.2.2.2.1, (y41.2.2.2.2.2.2.2, (y41.2.2.2.2.1, y41.2.2.2.2.2.1))))))) (fun y42 =>
                                      bif (!y42) then
                                        k false
                                      else
                                        laws_toVersionS_k a1 (fun y43 =>
                                          laws_eqVersionS_k y37 y43 (fun y44 =>
                                            bif (!y44) then
                                              k false
                                            else
                                              laws_markTxn_va_k y36.1 y36.2.1 y36.2.2.1 y36.2.2.2.1 y36.2.2.2.2.1 y36.2.2.2.2.2.1 (1 : Int) y36.2.2.2.2.2.2.1 y36.2.2.2.2.2.2.2 (fun y45 =>
                                                laws_markVersionS_vo_k y45.1 y37 (fun y46 =>
                                                  bif (decide (y46.1 < (0 : Int))) then
                                                    k false
                                                  else
                                                    laws_eqPairS_k y39 y35 (fun y47 =>
                                                      bif (!y47) then
                                                        k false
                                                      else
                                                        laws_FnExactOwnScan_wj5000026 a1 false a0.1 a0.2.1 a0.2.2.1 a0.2.2.2.1 a0.2.2.2.2.1 a0.2.2.2.2.2.1 a0.2.2.2.2.2.2.1 a0.2.2.2.2.2.2.2 a2.1 a2.2 y35 y39 (fun z48 =>
                                                          k z48.1))))))))))))))))))))

theorem laws_FnExactOwnScan_r {a0 : dTxn} {a1 : (List dVersion)} {a2 : dRange}  {k : Bool → Option Res} : laws_FnExactOwnScan_k a0 a1 a2 k = laws_FnExactOwnScan_t a0 a1 a2 k := by
  rw [laws_FnExactOwnScan_e]
  simp only [laws_FnExactOwnScan_d, laws_FnExactOwnScan_t, laws_FnExactOwnScan_wz5000026, Sum.elim_inl, Sum.elim_inr]

end

end Go.VE
