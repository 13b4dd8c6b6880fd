/- Loops told as recursions over what is left; written by gen.py. -/

import Derived.Test.YteolgjmeigifbaaLikeBaseN

import Derived.Test.YteolgjmeigifbaaP1

namespace Go.VE

noncomputable section

set_option linter.unusedVariables false
set_option linter.unusedSimpArgs false
set_option maxRecDepth 100000


def laws_szVersionS_w0 (u0 : (List dVersion)) (u2 : Int) : List dVersion → Int → Nat → (((Int × Int × Int) ⊕ (Int × Int)) → Option Res) → Option Res
  | [], s1, i, k =>
    k (.inr (s1, (i : Int)))
  | y :: l, s1, i, k =>
    laws_szVersion_k y s1 (fun y1 =>
      bif (decide (y1 < (0 : Int))) then
        k (.inl (y1, (-1 : Int), (i : Int)))
      else
        laws_szVersionS_w0 u0 u2 l y1 (i + 1) k)

theorem laws_szVersionS_lw0 {u0} {u2} (h0 : u0.length < 9223372036854775807) {K : (q24T ⊕ q24T) → Option Res} : ∀ (l : List dVersion) (i : Nat) (s1 : Int) (n : Nat), u0.drop i = l → l.length < n → loopK laws_szVersionS_b0 n (u0, s1, u2, (i : Int)) K = laws_szVersionS_w0 u0 u2 l s1 i (Sum.elim (fun z => K (.inl (u0, z.1, z.2.1, z.2.2))) (fun z => K (.inr (u0, z.1, u2, z.2)))) := by
  intro l
  induction l with
  | nil =>
    intro i s1 n hd hn
    have hge := lwl_nil hd
    cases n with
    | zero => exact absurd hn (Nat.not_lt_zero _)
    | succ n => simp only [loopK, laws_szVersionS_b0, laws_szVersionS_w0, hge, decide_false, cond_false, Sum.elim_inr, Sum.elim_inl]
  | cons y l ih =>
    intro i s1 n hd hn
    obtain ⟨hlt, hz, hd2, hw, hnn⟩ := lwl_cons hd h0
    have hy := lwl_get hd
    cases n with
    | zero => exact absurd hn (Nat.not_lt_zero _)
    | succ n =>
      have ih2 := fun (s1 : Int) => ih (i + 1) s1 n hd2 (Nat.lt_of_succ_lt_succ hn)
      simp only [loopK, laws_szVersionS_b0, laws_szVersionS_w0, hlt, hz, decide_true, cond_true, and_self, if_true, hy, hw, hnn, Sum.elim_inl, Sum.elim_inr, ih2]

theorem laws_szVersionS_lz0 {u0} {u2} (h0 : u0.length < 9223372036854775807) {K : (q24T ⊕ q24T) → Option Res} {s1 : Int} : loopK laws_szVersionS_b0 Fuel (u0, s1, u2, (0 : Int)) K = laws_szVersionS_w0 u0 u2 u0 s1 0 (Sum.elim (fun z => K (.inl (u0, z.1, z.2.1, z.2.2))) (fun z => K (.inr (u0, z.1, u2, z.2)))) :=
  laws_szVersionS_lw0 h0 u0 0 s1 Fuel rfl (lwl_fuel h0)

def laws_szRangeS_w0 (u0 : (List dRange)) (u2 : Int) : List dRange → Int → Nat → (((Int × Int × Int) ⊕ (Int × Int)) → Option Res) → Option Res
  | [], s1, i, k =>
    k (.inr (s1, (i : Int)))
  | y :: l, s1, i, k =>
    laws_szRange_k y s1 (fun y1 =>
      bif (decide (y1 < (0 : Int))) then
        k (.inl (y1, (-1 : Int), (i : Int)))
      else
        laws_szRangeS_w0 u0 u2 l y1 (i + 1) k)

theorem laws_szRangeS_lw0 {u0} {u2} (h0 : u0.length < 9223372036854775807) {K : (q8T ⊕ q8T) → Option Res} : ∀ (l : List dRange) (i : Nat) (s1 : Int) (n : Nat), u0.drop i = l → l.length < n → loopK laws_szRangeS_b0 n (u0, s1, u2, (i : Int)) K = laws_szRangeS_w0 u0 u2 l s1 i (Sum.elim (fun z => K (.inl (u0, z.1, z.2.1, z.2.2))) (fun z => K (.inr (u0, z.1, u2, z.2)))) := by
  intro l
  induction l with
  | nil =>
    intro i s1 n hd hn
    have hge := lwl_nil hd
    cases n with
    | zero => exact absurd hn (Nat.not_lt_zero _)
    | succ n => simp only [loopK, laws_szRangeS_b0, laws_szRangeS_w0, hge, decide_false, cond_false, Sum.elim_inr, Sum.elim_inl]
  | cons y l ih =>
    intro i s1 n hd hn
    obtain ⟨hlt, hz, hd2, hw, hnn⟩ := lwl_cons hd h0
    have hy := lwl_get hd
    cases n with
    | zero => exact absurd hn (Nat.not_lt_zero _)
    | succ n =>
      have ih2 := fun (s1 : Int) => ih (i + 1) s1 n hd2 (Nat.lt_of_succ_lt_succ hn)
      simp only [loopK, laws_szRangeS_b0, laws_szRangeS_w0, hlt, hz, decide_true, cond_true, and_self, if_true, hy, hw, hnn, Sum.elim_inl, Sum.elim_inr, ih2]

theorem laws_szRangeS_lz0 {u0} {u2} (h0 : u0.length < 9223372036854775807) {K : (q8T ⊕ q8T) → Option Res} {s1 : Int} : loopK laws_szRangeS_b0 Fuel (u0, s1, u2, (0 : Int)) K = laws_szRangeS_w0 u0 u2 u0 s1 0 (Sum.elim (fun z => K (.inl (u0, z.1, z.2.1, z.2.2))) (fun z => K (.inr (u0, z.1, u2, z.2)))) :=
  laws_szRangeS_lw0 h0 u0 0 s1 Fuel rfl (lwl_fuel h0)

def laws_szWriteS_w0 (u0 : (List dWrite)) (u2 : Int) : List dWrite → Int → Nat → (((Int × Int × Int) ⊕ (Int × Int)) → Option Res) → Option Res
  | [], s1, i, k =>
    k (.inr (s1, (i : Int)))
  | y :: l, s1, i, k =>
    laws_szWrite_k y s1 (fun y1 =>
      bif (decide (y1 < (0 : Int))) then
        k (.inl (y1, (-1 : Int), (i : Int)))
      else
        laws_szWriteS_w0 u0 u2 l y1 (i + 1) k)

theorem laws_szWriteS_lw0 {u0} {u2} (h0 : u0.length < 9223372036854775807) {K : (q29T ⊕ q29T) → Option Res} : ∀ (l : List dWrite) (i : Nat) (s1 : Int) (n : Nat), u0.drop i = l → l.length < n → loopK laws_szWriteS_b0 n (u0, s1, u2, (i : Int)) K = laws_szWriteS_w0 u0 u2 l s1 i (Sum.elim (fun z => K (.inl (u0, z.1, z.2.1, z.2.2))) (fun z => K (.inr (u0, z.1, u2, z.2)))) := by
  intro l
  induction l with
  | nil =>
    intro i s1 n hd hn
    have hge := lwl_nil hd
    cases n with
    | zero => exact absurd hn (Nat.not_lt_zero _)
    | succ n => simp only [loopK, laws_szWriteS_b0, laws_szWriteS_w0, hge, decide_false, cond_false, Sum.elim_inr, Sum.elim_inl]
  | cons y l ih =>
    intro i s1 n hd hn
    obtain ⟨hlt, hz, hd2, hw, hnn⟩ := lwl_cons hd h0
    have hy := lwl_get hd
    cases n with
    | zero => exact absurd hn (Nat.not_lt_zero _)
    | succ n =>
      have ih2 := fun (s1 : Int) => ih (i + 1) s1 n hd2 (Nat.lt_of_succ_lt_succ hn)
      simp only [loopK, laws_szWriteS_b0, laws_szWriteS_w0, hlt, hz, decide_true, cond_true, and_self, if_true, hy, hw, hnn, Sum.elim_inl, Sum.elim_inr, ih2]

theorem laws_szWriteS_lz0 {u0} {u2} (h0 : u0.length < 9223372036854775807) {K : (q29T ⊕ q29T) → Option Res} {s1 : Int} : loopK laws_szWriteS_b0 Fuel (u0, s1, u2, (0 : Int)) K = laws_szWriteS_w0 u0 u2 u0 s1 0 (Sum.elim (fun z => K (.inl (u0, z.1, z.2.1, z.2.2))) (fun z => K (.inr (u0, z.1, u2, z.2)))) :=
  laws_szWriteS_lw0 h0 u0 0 s1 Fuel rfl (lwl_fuel h0)

def laws_szTxnS_w0 (u0 : (List dTxn)) (u2 : Int) : List dTxn → Int → Nat → (((Int × Int × Int) ⊕ (Int × Int)) → Option Res) → Option Res
  | [], s1, i, k =>
    k (.inr (s1, (i : Int)))
  | y :: l, s1, i, k =>
    laws_szTxn_k y s1 (fun y1 =>
      bif (decide (y1 < (0 : Int))) then
        k (.inl (y1, (-1 : Int), (i : Int)))
      else
        laws_szTxnS_w0 u0 u2 l y1 (i + 1) k)

theorem laws_szTxnS_lw0 {u0} {u2} (h0 : u0.length < 9223372036854775807) {K : (q12T ⊕ q12T) → Option Res} : ∀ (l : List dTxn) (i : Nat) (s1 : Int) (n : Nat), u0.drop i = l → l.length < n → loopK laws_szTxnS_b0 n (u0, s1, u2, (i : Int)) K = laws_szTxnS_w0 u0 u2 l s1 i (Sum.elim (fun z => K (.inl (u0, z.1, z.2.1, z.2.2))) (fun z => K (.inr (u0, z.1, u2, z.2)))) := by
  intro l
  induction l with
  | nil =>
    intro i s1 n hd hn
    have hge := lwl_nil hd
    cases n with
    | zero => exact absurd hn (Nat.not_lt_zero _)
    | succ n => simp only [loopK, laws_szTxnS_b0, laws_szTxnS_w0, hge, decide_false, cond_false, Sum.elim_inr, Sum.elim_inl]
  | cons y l ih =>
    intro i s1 n hd hn
    obtain ⟨hlt, hz, hd2, hw, hnn⟩ := lwl_cons hd h0
    have hy := lwl_get hd
    cases n with
    | zero => exact absurd hn (Nat.not_lt_zero _)
    | succ n =>
      have ih2 := fun (s1 : Int) => ih (i + 1) s1 n hd2 (Nat.lt_of_succ_lt_succ hn)
      simp only [loopK, laws_szTxnS_b0, laws_szTxnS_w0, hlt, hz, decide_true, cond_true, and_self, if_true, hy, hw, hnn, Sum.elim_inl, Sum.elim_inr, ih2]

theorem laws_szTxnS_lz0 {u0} {u2} (h0 : u0.length < 9223372036854775807) {K : (q12T ⊕ q12T) → Option Res} {s1 : Int} : loopK laws_szTxnS_b0 Fuel (u0, s1, u2, (0 : Int)) K = laws_szTxnS_w0 u0 u2 u0 s1 0 (Sum.elim (fun z => K (.inl (u0, z.1, z.2.1, z.2.2))) (fun z => K (.inr (u0, z.1, u2, z.2)))) :=
  laws_szTxnS_lw0 h0 u0 0 s1 Fuel rfl (lwl_fuel h0)

def laws_toVersionS_w0 (u0 : (List dVersion)) : List dVersion → (List dVersion) → Nat → ((Int × (List dVersion)) → Option Res) → Option Res
  | [], s2, i, k =>
    k ((i : Int), s2)
  | y :: l, s2, i, k =>
    laws_toVersion_k y (fun y1 =>
      if 0 ≤ (i : Int) ∧ (i : Int) < (s2.length : Int) then
        laws_toVersionS_w0 u0 l (s2.set (i : Int).toNat y1) (i + 1) k
      else none)

theorem laws_toVersionS_lw0 {u0} (h0 : u0.length < 9223372036854775807) {K : q18T → Option Res} : ∀ (l : List dVersion) (i : Nat) (s2 : (List dVersion)) (n : Nat), u0.drop i = l → l.length < n → loopK laws_toVersionS_b0 n (u0, (i : Int), s2) K = laws_toVersionS_w0 u0 l s2 i (fun z => K (u0, z.1, z.2)) := by
  intro l
  induction l with
  | nil =>
    intro i s2 n hd hn
    have hge := lwl_nil hd
    cases n with
    | zero => exact absurd hn (Nat.not_lt_zero _)
    | succ n => simp only [loopK, laws_toVersionS_b0, laws_toVersionS_w0, hge, decide_false, cond_false, Sum.elim_inr, Sum.elim_inl]
  | cons y l ih =>
    intro i s2 n hd hn
    obtain ⟨hlt, hz, hd2, hw, hnn⟩ := lwl_cons hd h0
    have hy := lwl_get hd
    cases n with
    | zero => exact absurd hn (Nat.not_lt_zero _)
    | succ n =>
      have ih2 := fun (s2 : (List dVersion)) => ih (i + 1) s2 n hd2 (Nat.lt_of_succ_lt_succ hn)
      simp only [loopK, laws_toVersionS_b0, laws_toVersionS_w0, hlt, hz, decide_true, cond_true, and_self, if_true, hy, hw, hnn, Sum.elim_inl, Sum.elim_inr, ih2]

theorem laws_toVersionS_lz0 {u0} (h0 : u0.length < 9223372036854775807) {K : q18T → Option Res} {s2 : (List dVersion)} : loopK laws_toVersionS_b0 Fuel (u0, (0 : Int), s2) K = laws_toVersionS_w0 u0 u0 s2 0 (fun z => K (u0, z.1, z.2)) :=
  laws_toVersionS_lw0 h0 u0 0 s2 Fuel rfl (lwl_fuel h0)

def laws_toVersionS_t (a0 : (List dVersion)) (k : (List dVersion) → Option Res) : Option Res :=
  if 0 ≤ (a0.length : Int) ∧ (a0.length : Int) ≤ (a0.length : Int) ∧ (a0.length : Int) ≤ (VE.maxLen : Int) then
    laws_toVersionS_w0 a0 a0 (List.replicate (a0.length : Int).toNat (Ty.zero tVersion)) 0 (fun z13 =>
      k z13.2)
  else none

theorem laws_toVersionS_r {a0 : (List dVersion)} (h0 : a0.length < 9223372036854775807) {k : (List dVersion) → Option Res} : laws_toVersionS_k a0 k = laws_toVersionS_t a0 k := by
  rw [laws_toVersionS_e]
  simp only [laws_toVersionS_d, laws_toVersionS_t, (laws_toVersionS_lz0 h0), Sum.elim_inl, Sum.elim_inr]

def laws_toRangeS_w0 (u0 : (List dRange)) : List dRange → (List dRange) → Nat → ((Int × (List dRange)) → Option Res) → Option Res
  | [], s2, i, k =>
    k ((i : Int), s2)
  | y :: l, s2, i, k =>
    laws_toRange_k y (fun y1 =>
      if 0 ≤ (i : Int) ∧ (i : Int) < (s2.length : Int) then
        laws_toRangeS_w0 u0 l (s2.set (i : Int).toNat y1) (i + 1) k
      else none)

theorem laws_toRangeS_lw0 {u0} (h0 : u0.length < 9223372036854775807) {K : q6T → Option Res} : ∀ (l : List dRange) (i : Nat) (s2 : (List dRange)) (n : Nat), u0.drop i = l → l.length < n → loopK laws_toRangeS_b0 n (u0, (i : Int), s2) K = laws_toRangeS_w0 u0 l s2 i (fun z => K (u0, z.1, z.2)) := by
  intro l
  induction l with
  | nil =>
    intro i s2 n hd hn
    have hge := lwl_nil hd
    cases n with
    | zero => exact absurd hn (Nat.not_lt_zero _)
    | succ n => simp only [loopK, laws_toRangeS_b0, laws_toRangeS_w0, hge, decide_false, cond_false, Sum.elim_inr, Sum.elim_inl]
  | cons y l ih =>
    intro i s2 n hd hn
    obtain ⟨hlt, hz, hd2, hw, hnn⟩ := lwl_cons hd h0
    have hy := lwl_get hd
    cases n with
    | zero => exact absurd hn (Nat.not_lt_zero _)
    | succ n =>
      have ih2 := fun (s2 : (List dRange)) => ih (i + 1) s2 n hd2 (Nat.lt_of_succ_lt_succ hn)
      simp only [loopK, laws_toRangeS_b0, laws_toRangeS_w0, hlt, hz, decide_true, cond_true, and_self, if_true, hy, hw, hnn, Sum.elim_inl, Sum.elim_inr, ih2]

theorem laws_toRangeS_lz0 {u0} (h0 : u0.length < 9223372036854775807) {K : q6T → Option Res} {s2 : (List dRange)} : loopK laws_toRangeS_b0 Fuel (u0, (0 : Int), s2) K = laws_toRangeS_w0 u0 u0 s2 0 (fun z => K (u0, z.1, z.2)) :=
  laws_toRangeS_lw0 h0 u0 0 s2 Fuel rfl (lwl_fuel h0)

def laws_toRangeS_t (a0 : (List dRange)) (k : (List dRange) → Option Res) : Option Res :=
  if 0 ≤ (a0.length : Int) ∧ (a0.length : Int) ≤ (a0.length : Int) ∧ (a0.length : Int) ≤ (VE.maxLen : Int) then
    laws_toRangeS_w0 a0 a0 (List.replicate (a0.length : Int).toNat (Ty.zero tRange)) 0 (fun z13 =>
      k z13.2)
  else none

theorem laws_toRangeS_r {a0 : (List dRange)} (h0 : a0.length < 9223372036854775807) {k : (List dRange) → Option Res} : laws_toRangeS_k a0 k = laws_toRangeS_t a0 k := by
  rw [laws_toRangeS_e]
  simp only [laws_toRangeS_d, laws_toRangeS_t, (laws_toRangeS_lz0 h0), Sum.elim_inl, Sum.elim_inr]

def laws_toWriteS_w0 (u0 : (List dWrite)) : List dWrite → (List dWrite) → Nat → ((Int × (List dWrite)) → Option Res) → Option Res
  | [], s2, i, k =>
    k ((i : Int), s2)
  | y :: l, s2, i, k =>
    laws_toWrite_k y (fun y1 =>
      if 0 ≤ (i : Int) ∧ (i : Int) < (s2.length : Int) then
        laws_toWriteS_w0 u0 l (s2.set (i : Int).toNat y1) (i + 1) k
      else none)

theorem laws_toWriteS_lw0 {u0} (h0 : u0.length < 9223372036854775807) {K : q27T → Option Res} : ∀ (l : List dWrite) (i : Nat) (s2 : (List dWrite)) (n : Nat), u0.drop i = l → l.length < n → loopK laws_toWriteS_b0 n (u0, (i : Int), s2) K = laws_toWriteS_w0 u0 l s2 i (fun z => K (u0, z.1, z.2)) := by
  intro l
  induction l with
  | nil =>
    intro i s2 n hd hn
    have hge := lwl_nil hd
    cases n with
    | zero => exact absurd hn (Nat.not_lt_zero _)
    | succ n => simp only [loopK, laws_toWriteS_b0, laws_toWriteS_w0, hge, decide_false, cond_false, Sum.elim_inr, Sum.elim_inl]
  | cons y l ih =>
    intro i s2 n hd hn
    obtain ⟨hlt, hz, hd2, hw, hnn⟩ := lwl_cons hd h0
    have hy := lwl_get hd
    cases n with
    | zero => exact absurd hn (Nat.not_lt_zero _)
    | succ n =>
      have ih2 := fun (s2 : (List dWrite)) => ih (i + 1) s2 n hd2 (Nat.lt_of_succ_lt_succ hn)
      simp only [loopK, laws_toWriteS_b0, laws_toWriteS_w0, hlt, hz, decide_true, cond_true, and_self, if_true, hy, hw, hnn, Sum.elim_inl, Sum.elim_inr, ih2]

theorem laws_toWriteS_lz0 {u0} (h0 : u0.length < 9223372036854775807) {K : q27T → Option Res} {s2 : (List dWrite)} : loopK laws_toWriteS_b0 Fuel (u0, (0 : Int), s2) K = laws_toWriteS_w0 u0 u0 s2 0 (fun z => K (u0, z.1, z.2)) :=
  laws_toWriteS_lw0 h0 u0 0 s2 Fuel rfl (lwl_fuel h0)

def laws_toWriteS_t (a0 : (List dWrite)) (k : (List dWrite) → Option Res) : Option Res :=
  if 0 ≤ (a0.length : Int) ∧ (a0.length : Int) ≤ (a0.length : Int) ∧ (a0.length : Int) ≤ (VE.maxLen : Int) then
    laws_toWriteS_w0 a0 a0 (List.replicate (a0.length : Int).toNat (Ty.zero tWrite)) 0 (fun z13 =>
      k z13.2)
  else none

theorem laws_toWriteS_r {a0 : (List dWrite)} (h0 : a0.length < 9223372036854775807) {k : (List dWrite) → Option Res} : laws_toWriteS_k a0 k = laws_toWriteS_t a0 k := by
  rw [laws_toWriteS_e]
  simp only [laws_toWriteS_d, laws_toWriteS_t, (laws_toWriteS_lz0 h0), Sum.elim_inl, Sum.elim_inr]

def laws_toTxnS_w0 (u0 : (List dTxn)) : List dTxn → (List dTxn) → Nat → ((Int × (List dTxn)) → Option Res) → Option Res
  | [], s2, i, k =>
    k ((i : Int), s2)
  | y :: l, s2, i, k =>
    laws_toTxn_k y (fun y1 =>
      if 0 ≤ (i : Int) ∧ (i : Int) < (s2.length : Int) then
        laws_toTxnS_w0 u0 l (s2.set (i : Int).toNat (y1.1, (y1.2.1, (y1.2.2.1, (y1.2.2.2.1, (y1.2.2.2.2.2.2.1, (y1.2.2.2.2.2.2.2, (y1.2.2.2.2.1, y1.2.2.2.2.2.1)))))))) (i + 1) k
      else none)

theorem laws_toTxnS_lw0 {u0} (h0 : u0.length < 9223372036854775807) {K : q11T → Option Res} : ∀ (l : List dTxn) (i : Nat) (s2 : (List dTxn)) (n : Nat), u0.drop i = l → l.length < n → loopK laws_toTxnS_b0 n (u0, (i : Int), s2) K = laws_toTxnS_w0 u0 l s2 i (fun z => K (u0, z.1, z.2)) := by
  intro l
  induction l with
  | nil =>
    intro i s2 n hd hn
    have hge := lwl_nil hd
    cases n with
    | zero => exact absurd hn (Nat.not_lt_zero _)
    | succ n => simp only [loopK, laws_toTxnS_b0, laws_toTxnS_w0, hge, decide_false, cond_false, Sum.elim_inr, Sum.elim_inl]
  | cons y l ih =>
    intro i s2 n hd hn
    obtain ⟨hlt, hz, hd2, hw, hnn⟩ := lwl_cons hd h0
    have hy := lwl_get hd
    cases n with
    | zero => exact absurd hn (Nat.not_lt_zero _)
    | succ n =>
      have ih2 := fun (s2 : (List dTxn)) => ih (i + 1) s2 n hd2 (Nat.lt_of_succ_lt_succ hn)
      simp only [loopK, laws_toTxnS_b0, laws_toTxnS_w0, hlt, hz, decide_true, cond_true, and_self, if_true, hy, hw, hnn, Sum.elim_inl, Sum.elim_inr, ih2]

theorem laws_toTxnS_lz0 {u0} (h0 : u0.length < 9223372036854775807) {K : q11T → Option Res} {s2 : (List dTxn)} : loopK laws_toTxnS_b0 Fuel (u0, (0 : Int), s2) K = laws_toTxnS_w0 u0 u0 s2 0 (fun z => K (u0, z.1, z.2)) :=
  laws_toTxnS_lw0 h0 u0 0 s2 Fuel rfl (lwl_fuel h0)

def laws_toTxnS_t (a0 : (List dTxn)) (k : (List dTxn) → Option Res) : Option Res :=
  if 0 ≤ (a0.length : Int) ∧ (a0.length : Int) ≤ (a0.length : Int) ∧ (a0.length : Int) ≤ (VE.maxLen : Int) then
    laws_toTxnS_w0 a0 a0 (List.replicate (a0.length : Int).toNat (Ty.zero tTxn)) 0 (fun z13 =>
      k z13.2)
  else none

theorem laws_toTxnS_r {a0 : (List dTxn)} (h0 : a0.length < 9223372036854775807) {k : (List dTxn) → Option Res} : laws_toTxnS_k a0 k = laws_toTxnS_t a0 k := by
  rw [laws_toTxnS_e]
  simp only [laws_toTxnS_d, laws_toTxnS_t, (laws_toTxnS_lz0 h0), Sum.elim_inl, Sum.elim_inr]

def spec_KeyOk_w0 (u0 : ByteArray) (u1 : Bool) : List Int → Nat → (((Bool × Int) ⊕ Int) → Option Res) → Option Res
  | [], i, k =>
    k (.inr (i : Int))
  | y :: l, i, k =>
    bif (decide (y < (97 : Int))) then
      k (.inl (false, (i : Int)))
    else
      bif (decide (y > (122 : Int))) then
        k (.inl (false, (i : Int)))
      else
        spec_KeyOk_w0 u0 u1 l (i + 1) k

theorem spec_KeyOk_lw0 {u0} {u1} (h0 : u0.size < 9223372036854775807) {K : ((ByteArray × Bool × Int) ⊕ (ByteArray × Bool × Int)) → Option Res} : ∀ (l : List Int) (i : Nat)  (n : Nat), (intsOf u0).drop i = l → l.length < n → loopK spec_KeyOk_b0 n (u0, u1, (i : Int)) K = spec_KeyOk_w0 u0 u1 l  i (Sum.elim (fun z => K (.inl (u0, z.1, z.2))) (fun z => K (.inr (u0, u1, z)))) := by
  intro l
  induction l with
  | nil =>
    intro i  n hd hn
    have hge := lws_nil hd
    cases n with
    | zero => exact absurd hn (Nat.not_lt_zero _)
    | succ n => simp only [loopK, spec_KeyOk_b0, spec_KeyOk_w0, hge, decide_false, cond_false, Sum.elim_inr, Sum.elim_inl]
  | cons y l ih =>
    intro i  n hd hn
    obtain ⟨hlt, hz, hd2, hw, hnn⟩ := lws_cons hd h0
    have hy := lws_get hd
    cases n with
    | zero => exact absurd hn (Nat.not_lt_zero _)
    | succ n =>
      have ih2 := ih (i + 1)  n hd2 (Nat.lt_of_succ_lt_succ hn)
      simp only [loopK, spec_KeyOk_b0, spec_KeyOk_w0, hlt, hz, decide_true, cond_true, and_self, if_true, hy, hw, hnn, Sum.elim_inl, Sum.elim_inr, ih2]

theorem spec_KeyOk_lz0 {u0} {u1} (h0 : u0.size < 9223372036854775807) {K : ((ByteArray × Bool × Int) ⊕ (ByteArray × Bool × Int)) → Option Res}  : loopK spec_KeyOk_b0 Fuel (u0, u1, (0 : Int)) K = spec_KeyOk_w0 u0 u1 (intsOf u0)  0 (Sum.elim (fun z => K (.inl (u0, z.1, z.2))) (fun z => K (.inr (u0, u1, z)))) :=
  spec_KeyOk_lw0 h0 (intsOf u0) 0  Fuel rfl (lws_fuel h0)

def spec_KeyOk_t (a0 : ByteArray) (k : Bool → Option Res) : Option Res :=
  spec_KeyOk_w0 a0 false (intsOf a0)  0 (Sum.elim (fun z13 =>
    k z13.1) (fun _ =>
    spec_l01In_k (a0.size : Int) (1 : Int) (3 : Int) (fun y15 =>
      k y15)))

theorem spec_KeyOk_r {a0 : ByteArray} (h0 : a0.size < 9223372036854775807) {k : Bool → Option Res} : spec_KeyOk_k a0 k = spec_KeyOk_t a0 k := by
  rw [spec_KeyOk_e]
  simp only [spec_KeyOk_d, spec_KeyOk_t, (spec_KeyOk_lz0 h0), Sum.elim_inl, Sum.elim_inr]

def spec_WritesOk_w0 (u0 : (List dWrite)) (u1 : Bool) : List dWrite → Nat → (((Bool × Int) ⊕ Int) → Option Res) → Option Res
  | [], i, k =>
    k (.inr (i : Int))
  | y :: l, i, k =>
    spec_WriteOk_k y (fun y1 =>
      bif (!y1) then
        k (.inl (false, (i : Int)))
      else
        bif (decide ((i : Int) > (0 : Int))) then
          if 0 ≤ (IntKind.wrap .i64 ((i : Int) - (1 : Int))) ∧ (IntKind.wrap .i64 ((i : Int) - (1 : Int))) < (u0.length : Int) then
            bif (!(strLess ((rd (Ty.zero tWrite) u0 (IntKind.wrap .i64 ((i : Int) - (1 : Int)))).1) (y.1))) then
              k (.inl (false, (i : Int)))
            else
              spec_WritesOk_w0 u0 u1 l (i + 1) k
          else none
        else
          spec_WritesOk_w0 u0 u1 l (i + 1) k)

theorem spec_WritesOk_lw0 {u0} {u1} (h0 : u0.length < 9223372036854775807) {K : (((List dWrite) × Bool × Int) ⊕ ((List dWrite) × Bool × Int)) → Option Res} : ∀ (l : List dWrite) (i : Nat)  (n : Nat), u0.drop i = l → l.length < n → loopK spec_WritesOk_b0 n (u0, u1, (i : Int)) K = spec_WritesOk_w0 u0 u1 l  i (Sum.elim (fun z => K (.inl (u0, z.1, z.2))) (fun z => K (.inr (u0, u1, z)))) := by
  intro l
  induction l with
  | nil =>
    intro i  n hd hn
    have hge := lwl_nil hd
    cases n with
    | zero => exact absurd hn (Nat.not_lt_zero _)
    | succ n => simp only [loopK, spec_WritesOk_b0, spec_WritesOk_w0, hge, decide_false, cond_false, Sum.elim_inr, Sum.elim_inl]
  | cons y l ih =>
    intro i  n hd hn
    obtain ⟨hlt, hz, hd2, hw, hnn⟩ := lwl_cons hd h0
    have hy := lwl_get hd
    cases n with
    | zero => exact absurd hn (Nat.not_lt_zero _)
    | succ n =>
      have ih2 := ih (i + 1)  n hd2 (Nat.lt_of_succ_lt_succ hn)
      simp only [loopK, spec_WritesOk_b0, spec_WritesOk_w0, hlt, hz, decide_true, cond_true, and_self, if_true, hy, hw, hnn, Sum.elim_inl, Sum.elim_inr, ih2]

theorem spec_WritesOk_lz0 {u0} {u1} (h0 : u0.length < 9223372036854775807) {K : (((List dWrite) × Bool × Int) ⊕ ((List dWrite) × Bool × Int)) → Option Res}  : loopK spec_WritesOk_b0 Fuel (u0, u1, (0 : Int)) K = spec_WritesOk_w0 u0 u1 u0  0 (Sum.elim (fun z => K (.inl (u0, z.1, z.2))) (fun z => K (.inr (u0, u1, z)))) :=
  spec_WritesOk_lw0 h0 u0 0  Fuel rfl (lwl_fuel h0)

def spec_WritesOk_t (a0 : (List dWrite)) (k : Bool → Option Res) : Option Res :=
  spec_WritesOk_w0 a0 false a0  0 (Sum.elim (fun z13 =>
    k z13.1) (fun _ =>
    k (decide ((a0.length : Int) ≤ (8 : Int)))))

theorem spec_WritesOk_r {a0 : (List dWrite)} (h0 : a0.length < 9223372036854775807) {k : Bool → Option Res} : spec_WritesOk_k a0 k = spec_WritesOk_t a0 k := by
  rw [spec_WritesOk_e]
  simp only [spec_WritesOk_d, spec_WritesOk_t, (spec_WritesOk_lz0 h0), Sum.elim_inl, Sum.elim_inr]

def spec_TxnOk_wj5000012 (u0 : Bool) (u1 : Int) (u2 : Int) (u3 : Int) (u4 : Int) (u5 : (List dRange)) (u6 : (List dWrite)) (u7 : Bool) (u8 : ByteArray) (k : Bool → Option Res) : Option Res :=
    bif (u2 != (1 : Int)) then
      k true
    else
      k (!u7)

theorem spec_TxnOk_wz5000012 {u0} {u1} {u2} {u3} {u4} {u5} {u6} {u7} {u8}  {K : q32T → Option Res} : spec_TxnOk_j5000012 (u0, u1, u2, u3, u4, u5, u6, u7, u8) K = spec_TxnOk_wj5000012 u0 u1 u2 u3 u4 u5 u6 u7 u8 (fun z => K (z, u1, u2, u3, u4, u5, u6, u7, u8)) := by
  simp only [spec_TxnOk_j5000012, spec_TxnOk_wj5000012, Sum.elim_inl, Sum.elim_inr]

def spec_TxnOk_wj5000010 (u0 : Bool) (u1 : Int) (u2 : Int) (u3 : Int) (u4 : Int) (u5 : (List dRange)) (u6 : (List dWrite)) (u7 : Bool) (u8 : ByteArray) (k : Bool → Option Res) : Option Res :=
    bif (u2 == (2 : Int)) then
      spec_KeyOk_k u8 (fun y1 =>
        bif (!y1) then
          k false
        else
          bif (u2 != (2 : Int)) then
            bif (!(strEq u8 (⟨#[]⟩ : ByteArray))) then
              k false
            else
              spec_TxnOk_wj5000012 u0 u1 u2 u3 u4 u5 u6 u7 u8 (fun z2 =>
                k z2)
          else
            spec_TxnOk_wj5000012 u0 u1 u2 u3 u4 u5 u6 u7 u8 (fun z3 =>
              k z3))
    else
      bif (u2 != (2 : Int)) then
        bif (!(strEq u8 (⟨#[]⟩ : ByteArray))) then
          k false
        else
          spec_TxnOk_wj5000012 u0 u1 u2 u3 u4 u5 u6 u7 u8 (fun z4 =>
            k z4)
      else
        spec_TxnOk_wj5000012 u0 u1 u2 u3 u4 u5 u6 u7 u8 (fun z5 =>
          k z5)

theorem spec_TxnOk_wz5000010 {u0} {u1} {u2} {u3} {u4} {u5} {u6} {u7} {u8}  {K : q32T → Option Res} : spec_TxnOk_j5000010 (u0, u1, u2, u3, u4, u5, u6, u7, u8) K = spec_TxnOk_wj5000010 u0 u1 u2 u3 u4 u5 u6 u7 u8 (fun z => K (z, u1, u2, u3, u4, u5, u6, u7, u8)) := by
  simp only [spec_TxnOk_j5000010, spec_TxnOk_wj5000010, spec_TxnOk_wz5000012, Sum.elim_inl, Sum.elim_inr]

def spec_TxnOk_w0 (u0 : Bool) (u2 : Int) (u3 : Int) (u4 : Int) (u5 : Int) (u6 : (List dRange)) (u7 : (List dWrite)) (u8 : Bool) (u9 : ByteArray) : List dRange → Nat → (((Bool × Int) ⊕ Int) → Option Res) → Option Res
  | [], i, k =>
    k (.inr (i : Int))
  | y :: l, i, k =>
    spec_RangeOk_k y (fun y1 =>
      bif (!y1) then
        k (.inl (false, (i : Int)))
      else
        spec_TxnOk_w0 u0 u2 u3 u4 u5 u6 u7 u8 u9 l (i + 1) k)

theorem spec_TxnOk_lw0 {u0} {u2} {u3} {u4} {u5} {u6} {u7} {u8} {u9} (h0 : u6.length < 9223372036854775807) {K : (q33T ⊕ q33T) → Option Res} : ∀ (l : List dRange) (i : Nat)  (n : Nat), u6.drop i = l → l.length < n → loopK spec_TxnOk_b0 n (u0, (i : Int), u2, u3, u4, u5, u6, u7, u8, u9) K = spec_TxnOk_w0 u0 u2 u3 u4 u5 u6 u7 u8 u9 l  i (Sum.elim (fun z => K (.inl (z.1, z.2, u2, u3, u4, u5, u6, u7, u8, u9))) (fun z => K (.inr (u0, z, u2, u3, u4, u5, u6, u7, u8, u9)))) := by
  intro l
  induction l with
  | nil =>
    intro i  n hd hn
    have hge := lwl_nil hd
    cases n with
    | zero => exact absurd hn (Nat.not_lt_zero _)
    | succ n => simp only [loopK, spec_TxnOk_b0, spec_TxnOk_w0, hge, decide_false, cond_false, Sum.elim_inr, Sum.elim_inl]
  | cons y l ih =>
    intro i  n hd hn
    obtain ⟨hlt, hz, hd2, hw, hnn⟩ := lwl_cons hd h0
    have hy := lwl_get hd
    cases n with
    | zero => exact absurd hn (Nat.not_lt_zero _)
    | succ n =>
      have ih2 := ih (i + 1)  n hd2 (Nat.lt_of_succ_lt_succ hn)
      simp only [loopK, spec_TxnOk_b0, spec_TxnOk_w0, hlt, hz, decide_true, cond_true, and_self, if_true, hy, hw, hnn, Sum.elim_inl, Sum.elim_inr, ih2]

theorem spec_TxnOk_lz0 {u0} {u2} {u3} {u4} {u5} {u6} {u7} {u8} {u9} (h0 : u6.length < 9223372036854775807) {K : (q33T ⊕ q33T) → Option Res}  : loopK spec_TxnOk_b0 Fuel (u0, (0 : Int), u2, u3, u4, u5, u6, u7, u8, u9) K = spec_TxnOk_w0 u0 u2 u3 u4 u5 u6 u7 u8 u9 u6  0 (Sum.elim (fun z => K (.inl (z.1, z.2, u2, u3, u4, u5, u6, u7, u8, u9))) (fun z => K (.inr (u0, z, u2, u3, u4, u5, u6, u7, u8, u9)))) :=
  spec_TxnOk_lw0 h0 u6 0  Fuel rfl (lwl_fuel h0)

def spec_TxnOk_wj5000003 (u0 : Bool) (u1 : Int) (u2 : Int) (u3 : Int) (u4 : Int) (u5 : (List dRange)) (u6 : (List dWrite)) (u7 : Bool) (u8 : ByteArray) (k : Bool → Option Res) : Option Res :=
    spec_TxnOk_w0 u0 u1 u2 u3 u4 u5 u6 u7 u8 u5  0 (Sum.elim (fun z1 =>
      k z1.1) (fun _ =>
      bif (u2 == (3 : Int)) then
        spec_l01In_k u4 (IntKind.wrap .i64 (u3 + (1 : Int))) (9999 : Int) (fun y3 =>
          bif (!y3) then
            k false
          else
            bif (u2 != (3 : Int)) then
              bif (u4 != (0 : Int)) then
                k false
              else
                spec_TxnOk_wj5000010 u0 u1 u2 u3 u4 u5 u6 u7 u8 (fun z4 =>
                  k z4)
            else
              spec_TxnOk_wj5000010 u0 u1 u2 u3 u4 u5 u6 u7 u8 (fun z5 =>
                k z5))
      else
        bif (u2 != (3 : Int)) then
          bif (u4 != (0 : Int)) then
            k false
          else
            spec_TxnOk_wj5000010 u0 u1 u2 u3 u4 u5 u6 u7 u8 (fun z6 =>
              k z6)
        else
          spec_TxnOk_wj5000010 u0 u1 u2 u3 u4 u5 u6 u7 u8 (fun z7 =>
            k z7)))

theorem spec_TxnOk_wz5000003 {u0} {u1} {u2} {u3} {u4} {u5} {u6} {u7} {u8} (h0 : u5.length < 9223372036854775807) {K : q32T → Option Res} : spec_TxnOk_j5000003 (u0, u1, u2, u3, u4, u5, u6, u7, u8) K = spec_TxnOk_wj5000003 u0 u1 u2 u3 u4 u5 u6 u7 u8 (fun z => K (z, u1, u2, u3, u4, u5, u6, u7, u8)) := by
  simp only [spec_TxnOk_j5000003, spec_TxnOk_wj5000003, spec_TxnOk_wz5000010, (spec_TxnOk_lz0 h0), Sum.elim_inl, Sum.elim_inr]

def spec_TxnOk_t (a0 : dTxn) (k : Bool → Option Res) : Option Res :=
  spec_l01In_k a0.1 (1 : Int) (9999 : Int) (fun y13 =>
    bif (!y13) then
      k false
    else
      spec_l01In_k a0.2.1 (1 : Int) (3 : Int) (fun y14 =>
        bif (!y14) then
          k false
        else
          spec_l01In_k a0.2.2.1 (0 : Int) (9999 : Int) (fun y15 =>
            bif (!y15) then
              k false
            else
              bif (decide ((a0.2.2.2.2.1.length : Int) > (8 : Int))) then
                k false
              else
                spec_WritesOk_k a0.2.2.2.2.2.1 (fun y16 =>
                  bif (!y16) then
                    k false
                  else
                    spec_TxnOk_wj5000003 false a0.1 a0.2.1 a0.2.2.1 a0.2.2.2.1 a0.2.2.2.2.1 a0.2.2.2.2.2.1 a0.2.2.2.2.2.2.1 a0.2.2.2.2.2.2.2 (fun z17 =>
                      k z17)))))

theorem spec_TxnOk_r {a0 : dTxn} (h0 : a0.2.2.2.2.1.length < 9223372036854775807) {k : Bool → Option Res} : spec_TxnOk_k a0 k = spec_TxnOk_t a0 k := by
  rw [spec_TxnOk_e]
  simp only [spec_TxnOk_d, spec_TxnOk_t, (spec_TxnOk_wz5000003 h0), Sum.elim_inl, Sum.elim_inr]

def spec_TxnText_w0 (u2 : Int) (u3 : Int) (u4 : Int) (u5 : Int) (u6 : (List dRange)) (u7 : (List dWrite)) (u8 : Bool) (u9 : ByteArray) : List dRange → ByteArray → Nat → ((ByteArray × Int) → Option Res) → Option Res
  | [], s0, i, k =>
    k (s0, (i : Int))
  | y :: l, s0, i, k =>
    spec_l07Short_k y.1 (fun y1 =>
      if s0.size + y1.size ≤ 1099511627776 then
        spec_l07Short_k y.2 (fun y2 =>
          if (s0 ++ y1).size + y2.size ≤ 1099511627776 then
            spec_TxnText_w0 u2 u3 u4 u5 u6 u7 u8 u9 l ((s0 ++ y1) ++ y2) (i + 1) k
          else none)
      else none)

theorem spec_TxnText_lw0 {u2} {u3} {u4} {u5} {u6} {u7} {u8} {u9} (h0 : u6.length < 9223372036854775807) {K : q35T → Option Res} : ∀ (l : List dRange) (i : Nat) (s0 : ByteArray) (n : Nat), u6.drop i = l → l.length < n → loopK spec_TxnText_b0 n (s0, (i : Int), u2, u3, u4, u5, u6, u7, u8, u9) K = spec_TxnText_w0 u2 u3 u4 u5 u6 u7 u8 u9 l s0 i (fun z => K (z.1, z.2, u2, u3, u4, u5, u6, u7, u8, u9)) := by
  intro l
  induction l with
  | nil =>
    intro i s0 n hd hn
    have hge := lwl_nil hd
    cases n with
    | zero => exact absurd hn (Nat.not_lt_zero _)
    | succ n => simp only [loopK, spec_TxnText_b0, spec_TxnText_w0, hge, decide_false, cond_false, Sum.elim_inr, Sum.elim_inl]
  | cons y l ih =>
    intro i s0 n hd hn
    obtain ⟨hlt, hz, hd2, hw, hnn⟩ := lwl_cons hd h0
    have hy := lwl_get hd
    cases n with
    | zero => exact absurd hn (Nat.not_lt_zero _)
    | succ n =>
      have ih2 := fun (s0 : ByteArray) => ih (i + 1) s0 n hd2 (Nat.lt_of_succ_lt_succ hn)
      simp only [loopK, spec_TxnText_b0, spec_TxnText_w0, hlt, hz, decide_true, cond_true, and_self, if_true, hy, hw, hnn, Sum.elim_inl, Sum.elim_inr, ih2]

theorem spec_TxnText_lz0 {u2} {u3} {u4} {u5} {u6} {u7} {u8} {u9} (h0 : u6.length < 9223372036854775807) {K : q35T → Option Res} {s0 : ByteArray} : loopK spec_TxnText_b0 Fuel (s0, (0 : Int), u2, u3, u4, u5, u6, u7, u8, u9) K = spec_TxnText_w0 u2 u3 u4 u5 u6 u7 u8 u9 u6 s0 0 (fun z => K (z.1, z.2, u2, u3, u4, u5, u6, u7, u8, u9)) :=
  spec_TxnText_lw0 h0 u6 0 s0 Fuel rfl (lwl_fuel h0)

def spec_TxnText_w2 (u2 : Int) (u3 : Int) (u4 : Int) (u5 : Int) (u6 : (List dRange)) (u7 : (List dWrite)) (u8 : Bool) (u9 : ByteArray) : List dWrite → ByteArray → Nat → ((ByteArray × Int) → Option Res) → Option Res
  | [], s0, i, k =>
    k (s0, (i : Int))
  | y :: l, s0, i, k =>
    spec_l07Short_k y.1 (fun y1 =>
      if s0.size + y1.size ≤ 1099511627776 then
        spec_l07Short_k y.2.1 (fun y2 =>
          if (s0 ++ y1).size + y2.size ≤ 1099511627776 then
            spec_l07Bit_k y.2.2 (fun y3 =>
              if ((s0 ++ y1) ++ y2).size + y3.size ≤ 1099511627776 then
                spec_TxnText_w2 u2 u3 u4 u5 u6 u7 u8 u9 l (((s0 ++ y1) ++ y2) ++ y3) (i + 1) k
              else none)
          else none)
      else none)

theorem spec_TxnText_lw2 {u2} {u3} {u4} {u5} {u6} {u7} {u8} {u9} (h0 : u7.length < 9223372036854775807) {K : q35T → Option Res} : ∀ (l : List dWrite) (i : Nat) (s0 : ByteArray) (n : Nat), u7.drop i = l → l.length < n → loopK spec_TxnText_b2 n (s0, (i : Int), u2, u3, u4, u5, u6, u7, u8, u9) K = spec_TxnText_w2 u2 u3 u4 u5 u6 u7 u8 u9 l s0 i (fun z => K (z.1, z.2, u2, u3, u4, u5, u6, u7, u8, u9)) := by
  intro l
  induction l with
  | nil =>
    intro i s0 n hd hn
    have hge := lwl_nil hd
    cases n with
    | zero => exact absurd hn (Nat.not_lt_zero _)
    | succ n => simp only [loopK, spec_TxnText_b2, spec_TxnText_w2, hge, decide_false, cond_false, Sum.elim_inr, Sum.elim_inl]
  | cons y l ih =>
    intro i s0 n hd hn
    obtain ⟨hlt, hz, hd2, hw, hnn⟩ := lwl_cons hd h0
    have hy := lwl_get hd
    cases n with
    | zero => exact absurd hn (Nat.not_lt_zero _)
    | succ n =>
      have ih2 := fun (s0 : ByteArray) => ih (i + 1) s0 n hd2 (Nat.lt_of_succ_lt_succ hn)
      simp only [loopK, spec_TxnText_b2, spec_TxnText_w2, hlt, hz, decide_true, cond_true, and_self, if_true, hy, hw, hnn, Sum.elim_inl, Sum.elim_inr, ih2]

theorem spec_TxnText_lz2 {u2} {u3} {u4} {u5} {u6} {u7} {u8} {u9} (h0 : u7.length < 9223372036854775807) {K : q35T → Option Res} {s0 : ByteArray} : loopK spec_TxnText_b2 Fuel (s0, (0 : Int), u2, u3, u4, u5, u6, u7, u8, u9) K = spec_TxnText_w2 u2 u3 u4 u5 u6 u7 u8 u9 u7 s0 0 (fun z => K (z.1, z.2, u2, u3, u4, u5, u6, u7, u8, u9)) :=
  spec_TxnText_lw2 h0 u7 0 s0 Fuel rfl (lwl_fuel h0)

def spec_TxnText_t (a0 : dTxn) (k : (ByteArray × Bool) → Option Res) : Option Res :=
  spec_TxnOk_k a0 (fun y13 =>
    bif (!y13) then
      k ((⟨#[]⟩ : ByteArray), false)
    else
      spec_l01Var_k a0.1 (fun y14 =>
        spec_l01Var_k a0.2.1 (fun y15 =>
          if y14.size + y15.size ≤ 1099511627776 then
            spec_l01Var_k a0.2.2.1 (fun y16 =>
              if (y14 ++ y15).size + y16.size ≤ 1099511627776 then
                spec_l01Var_k a0.2.2.2.1 (fun y17 =>
                  if ((y14 ++ y15) ++ y16).size + y17.size ≤ 1099511627776 then
                    spec_l01Var_k (a0.2.2.2.2.1.length : Int) (fun y18 =>
                      if (((y14 ++ y15) ++ y16) ++ y17).size + y18.size ≤ 1099511627776 then
                        spec_TxnText_w0 a0.1 a0.2.1 a0.2.2.1 a0.2.2.2.1 a0.2.2.2.2.1 a0.2.2.2.2.2.1 a0.2.2.2.2.2.2.1 a0.2.2.2.2.2.2.2 a0.2.2.2.2.1 ((((y14 ++ y15) ++ y16) ++ y17) ++ y18) 0 (fun z19 =>
                          spec_l01Var_k (a0.2.2.2.2.2.1.length : Int) (fun y20 =>
                            if z19.1.size + y20.size ≤ 1099511627776 then
                              spec_TxnText_w2 a0.1 a0.2.1 a0.2.2.1 a0.2.2.2.1 a0.2.2.2.2.1 a0.2.2.2.2.2.1 a0.2.2.2.2.2.2.1 a0.2.2.2.2.2.2.2 a0.2.2.2.2.2.1 (z19.1 ++ y20) 0 (fun z21 =>
                                spec_l07Bit_k a0.2.2.2.2.2.2.1 (fun y22 =>
                                  if z21.1.size + y22.size ≤ 1099511627776 then
                                    spec_l07Short_k a0.2.2.2.2.2.2.2 (fun y23 =>
                                      if (z21.1 ++ y22).size + y23.size ≤ 1099511627776 then
                                        k (((z21.1 ++ y22) ++ y23), true)
                                      else none)
                                  else none))
                            else none))
                      else none)
                  else none)
              else none)
          else none)))

theorem spec_TxnText_r {a0 : dTxn} (h0 : a0.2.2.2.2.2.1.length < 9223372036854775807) (h1 : a0.2.2.2.2.1.length < 9223372036854775807) {k : (ByteArray × Bool) → Option Res} : spec_TxnText_k a0 k = spec_TxnText_t a0 k := by
  rw [spec_TxnText_e]
  simp only [spec_TxnText_d, spec_TxnText_t, (spec_TxnText_lz2 h0), (spec_TxnText_lz0 h1), Sum.elim_inl, Sum.elim_inr]

def spec_l12Texts_w0 (u0 : (List dTxn)) (u1 : (List dTxn)) (u2 : Bool) : List dTxn → Nat → (((Bool × Int) ⊕ Int) → Option Res) → Option Res
  | [], i, k =>
    k (.inr (i : Int))
  | y :: l, i, k =>
    spec_TxnText_k y (fun y1 =>
      if 0 ≤ (i : Int) ∧ (i : Int) < (u1.length : Int) then
        spec_TxnText_k (rd (Ty.zero tTxn) u1 (i : Int)) (fun y2 =>
          bif (!(y1.2 == y2.2)) then
            k (.inl (false, (i : Int)))
          else
            bif (!(strEq y1.1 y2.1)) then
              k (.inl (false, (i : Int)))
            else
              spec_l12Texts_w0 u0 u1 u2 l (i + 1) k)
      else none)

theorem spec_l12Texts_lw0 {u0} {u1} {u2} (h0 : u0.length < 9223372036854775807) {K : (q9T ⊕ q9T) → Option Res} : ∀ (l : List dTxn) (i : Nat)  (n : Nat), u0.drop i = l → l.length < n → loopK spec_l12Texts_b0 n (u0, u1, u2, (i : Int)) K = spec_l12Texts_w0 u0 u1 u2 l  i (Sum.elim (fun z => K (.inl (u0, u1, z.1, z.2))) (fun z => K (.inr (u0, u1, u2, z)))) := by
  intro l
  induction l with
  | nil =>
    intro i  n hd hn
    have hge := lwl_nil hd
    cases n with
    | zero => exact absurd hn (Nat.not_lt_zero _)
    | succ n => simp only [loopK, spec_l12Texts_b0, spec_l12Texts_w0, hge, decide_false, cond_false, Sum.elim_inr, Sum.elim_inl]
  | cons y l ih =>
    intro i  n hd hn
    obtain ⟨hlt, hz, hd2, hw, hnn⟩ := lwl_cons hd h0
    have hy := lwl_get hd
    cases n with
    | zero => exact absurd hn (Nat.not_lt_zero _)
    | succ n =>
      have ih2 := ih (i + 1)  n hd2 (Nat.lt_of_succ_lt_succ hn)
      simp only [loopK, spec_l12Texts_b0, spec_l12Texts_w0, hlt, hz, decide_true, cond_true, and_self, if_true, hy, hw, hnn, Sum.elim_inl, Sum.elim_inr, ih2]

theorem spec_l12Texts_lz0 {u0} {u1} {u2} (h0 : u0.length < 9223372036854775807) {K : (q9T ⊕ q9T) → Option Res}  : loopK spec_l12Texts_b0 Fuel (u0, u1, u2, (0 : Int)) K = spec_l12Texts_w0 u0 u1 u2 u0  0 (Sum.elim (fun z => K (.inl (u0, u1, z.1, z.2))) (fun z => K (.inr (u0, u1, u2, z)))) :=
  spec_l12Texts_lw0 h0 u0 0  Fuel rfl (lwl_fuel h0)

def spec_l12Texts_t (a0 : (List dTxn)) (a1 : (List dTxn)) (k : Bool → Option Res) : Option Res :=
  bif ((a0.length : Int) != (a1.length : Int)) then
    k false
  else
    spec_l12Texts_w0 a0 a1 false a0  0 (Sum.elim (fun z13 =>
      k z13.1) (fun _ =>
      k true))

theorem spec_l12Texts_r {a0 : (List dTxn)} {a1 : (List dTxn)} (h0 : a0.length < 9223372036854775807) {k : Bool → Option Res} : spec_l12Texts_k a0 a1 k = spec_l12Texts_t a0 a1 k := by
  rw [spec_l12Texts_e]
  simp only [spec_l12Texts_d, spec_l12Texts_t, (spec_l12Texts_lz0 h0), Sum.elim_inl, Sum.elim_inr]

def spec_l06At_w0 (u0 : (List dVersion)) (u1 : ByteArray) (u2 : Int) : List dVersion → Int → Nat → ((Int × Int) → Option Res) → Option Res
  | [], s3, i, k =>
    k (s3, (i : Int))
  | y :: l, s3, i, k =>
    bif (strEq (y.1) u1) then
      bif (decide (y.2.2.2 ≤ u2)) then
        bif (decide (s3 < (0 : Int))) then
          spec_l06At_w0 u0 u1 u2 l (i : Int) (i + 1) k
        else
          if 0 ≤ s3 ∧ s3 < (u0.length : Int) then
            bif (decide (y.2.2.2 > (rd (Ty.zero tVersion) u0 s3).2.2.2)) then
              spec_l06At_w0 u0 u1 u2 l (i : Int) (i + 1) k
            else
              spec_l06At_w0 u0 u1 u2 l s3 (i + 1) k
          else none
      else
        spec_l06At_w0 u0 u1 u2 l s3 (i + 1) k
    else
      spec_l06At_w0 u0 u1 u2 l s3 (i + 1) k

theorem spec_l06At_lw0 {u0} {u1} {u2} (h0 : u0.length < 9223372036854775807) {K : q17T → Option Res} : ∀ (l : List dVersion) (i : Nat) (s3 : Int) (n : Nat), u0.drop i = l → l.length < n → loopK spec_l06At_b0 n (u0, u1, u2, s3, (i : Int)) K = spec_l06At_w0 u0 u1 u2 l s3 i (fun z => K (u0, u1, u2, z.1, z.2)) := by
  intro l
  induction l with
  | nil =>
    intro i s3 n hd hn
    have hge := lwl_nil hd
    cases n with
    | zero => exact absurd hn (Nat.not_lt_zero _)
    | succ n => simp only [loopK, spec_l06At_b0, spec_l06At_w0, hge, decide_false, cond_false, Sum.elim_inr, Sum.elim_inl]
  | cons y l ih =>
    intro i s3 n hd hn
    obtain ⟨hlt, hz, hd2, hw, hnn⟩ := lwl_cons hd h0
    have hy := lwl_get hd
    cases n with
    | zero => exact absurd hn (Nat.not_lt_zero _)
    | succ n =>
      have ih2 := fun (s3 : Int) => ih (i + 1) s3 n hd2 (Nat.lt_of_succ_lt_succ hn)
      simp only [loopK, spec_l06At_b0, spec_l06At_w0, hlt, hz, decide_true, cond_true, and_self, if_true, hy, hw, hnn, Sum.elim_inl, Sum.elim_inr, ih2]

theorem spec_l06At_lz0 {u0} {u1} {u2} (h0 : u0.length < 9223372036854775807) {K : q17T → Option Res} {s3 : Int} : loopK spec_l06At_b0 Fuel (u0, u1, u2, s3, (0 : Int)) K = spec_l06At_w0 u0 u1 u2 u0 s3 0 (fun z => K (u0, u1, u2, z.1, z.2)) :=
  spec_l06At_lw0 h0 u0 0 s3 Fuel rfl (lwl_fuel h0)

def spec_l06At_t (a0 : (List dVersion)) (a1 : ByteArray) (a2 : Int) (k : Int → Option Res) : Option Res :=
  spec_l06At_w0 a0 a1 a2 a0 (-1 : Int) 0 (fun z13 =>
    k z13.1)

theorem spec_l06At_r {a0 : (List dVersion)} {a1 : ByteArray} {a2 : Int} (h0 : a0.length < 9223372036854775807) {k : Int → Option Res} : spec_l06At_k a0 a1 a2 k = spec_l06At_t a0 a1 a2 k := by
  rw [spec_l06At_e]
  simp only [spec_l06At_d, spec_l06At_t, (spec_l06At_lz0 h0), Sum.elim_inl, Sum.elim_inr]

def spec_l06Pairs_w0 (u0 : (List dRange)) (u1 : (List dRange)) (u2 : Bool) : List dRange → Nat → (((Bool × Int) ⊕ Int) → Option Res) → Option Res
  | [], i, k =>
    k (.inr (i : Int))
  | y :: l, i, k =>
    if 0 ≤ (i : Int) ∧ (i : Int) < (u1.length : Int) then
      bif (!(Ty.eqB tRange y (rd (Ty.zero tRange) u1 (i : Int)))) then
        k (.inl (false, (i : Int)))
      else
        spec_l06Pairs_w0 u0 u1 u2 l (i + 1) k
    else none

theorem spec_l06Pairs_lw0 {u0} {u1} {u2} (h0 : u0.length < 9223372036854775807) {K : (q5T ⊕ q5T) → Option Res} : ∀ (l : List dRange) (i : Nat)  (n : Nat), u0.drop i = l → l.length < n → loopK spec_l06Pairs_b0 n (u0, u1, u2, (i : Int)) K = spec_l06Pairs_w0 u0 u1 u2 l  i (Sum.elim (fun z => K (.inl (u0, u1, z.1, z.2))) (fun z => K (.inr (u0, u1, u2, z)))) := by
  intro l
  induction l with
  | nil =>
    intro i  n hd hn
    have hge := lwl_nil hd
    cases n with
    | zero => exact absurd hn (Nat.not_lt_zero _)
    | succ n => simp only [loopK, spec_l06Pairs_b0, spec_l06Pairs_w0, hge, decide_false, cond_false, Sum.elim_inr, Sum.elim_inl]
  | cons y l ih =>
    intro i  n hd hn
    obtain ⟨hlt, hz, hd2, hw, hnn⟩ := lwl_cons hd h0
    have hy := lwl_get hd
    cases n with
    | zero => exact absurd hn (Nat.not_lt_zero _)
    | succ n =>
      have ih2 := ih (i + 1)  n hd2 (Nat.lt_of_succ_lt_succ hn)
      simp only [loopK, spec_l06Pairs_b0, spec_l06Pairs_w0, hlt, hz, decide_true, cond_true, and_self, if_true, hy, hw, hnn, Sum.elim_inl, Sum.elim_inr, ih2]

theorem spec_l06Pairs_lz0 {u0} {u1} {u2} (h0 : u0.length < 9223372036854775807) {K : (q5T ⊕ q5T) → Option Res}  : loopK spec_l06Pairs_b0 Fuel (u0, u1, u2, (0 : Int)) K = spec_l06Pairs_w0 u0 u1 u2 u0  0 (Sum.elim (fun z => K (.inl (u0, u1, z.1, z.2))) (fun z => K (.inr (u0, u1, u2, z)))) :=
  spec_l06Pairs_lw0 h0 u0 0  Fuel rfl (lwl_fuel h0)

def spec_l06Pairs_t (a0 : (List dRange)) (a1 : (List dRange)) (k : Bool → Option Res) : Option Res :=
  bif ((a0.length : Int) != (a1.length : Int)) then
    k false
  else
    spec_l06Pairs_w0 a0 a1 false a0  0 (Sum.elim (fun z13 =>
      k z13.1) (fun _ =>
      k true))

theorem spec_l06Pairs_r {a0 : (List dRange)} {a1 : (List dRange)} (h0 : a0.length < 9223372036854775807) {k : Bool → Option Res} : spec_l06Pairs_k a0 a1 k = spec_l06Pairs_t a0 a1 k := by
  rw [spec_l06Pairs_e]
  simp only [spec_l06Pairs_d, spec_l06Pairs_t, (spec_l06Pairs_lz0 h0), Sum.elim_inl, Sum.elim_inr]

def impl_KeyOk_w0 (u0 : ByteArray) (u1 : Bool) : List Int → Nat → (((Bool × Int) ⊕ Int) → Option Res) → Option Res
  | [], i, k =>
    k (.inr (i : Int))
  | y :: l, i, k =>
    bif (decide (y < (97 : Int))) then
      k (.inl (false, (i : Int)))
    else
      bif (decide (y > (122 : Int))) then
        k (.inl (false, (i : Int)))
      else
        impl_KeyOk_w0 u0 u1 l (i + 1) k

theorem impl_KeyOk_lw0 {u0} {u1} (h0 : u0.size < 9223372036854775807) {K : ((ByteArray × Bool × Int) ⊕ (ByteArray × Bool × Int)) → Option Res} : ∀ (l : List Int) (i : Nat)  (n : Nat), (intsOf u0).drop i = l → l.length < n → loopK impl_KeyOk_b0 n (u0, u1, (i : Int)) K = impl_KeyOk_w0 u0 u1 l  i (Sum.elim (fun z => K (.inl (u0, z.1, z.2))) (fun z => K (.inr (u0, u1, z)))) := by
  intro l
  induction l with
  | nil =>
    intro i  n hd hn
    have hge := lws_nil hd
    cases n with
    | zero => exact absurd hn (Nat.not_lt_zero _)
    | succ n => simp only [loopK, impl_KeyOk_b0, impl_KeyOk_w0, hge, decide_false, cond_false, Sum.elim_inr, Sum.elim_inl]
  | cons y l ih =>
    intro i  n hd hn
    obtain ⟨hlt, hz, hd2, hw, hnn⟩ := lws_cons hd h0
    have hy := lws_get hd
    cases n with
    | zero => exact absurd hn (Nat.not_lt_zero _)
    | succ n =>
      have ih2 := ih (i + 1)  n hd2 (Nat.lt_of_succ_lt_succ hn)
      simp only [loopK, impl_KeyOk_b0, impl_KeyOk_w0, hlt, hz, decide_true, cond_true, and_self, if_true, hy, hw, hnn, Sum.elim_inl, Sum.elim_inr, ih2]

theorem impl_KeyOk_lz0 {u0} {u1} (h0 : u0.size < 9223372036854775807) {K : ((ByteArray × Bool × Int) ⊕ (ByteArray × Bool × Int)) → Option Res}  : loopK impl_KeyOk_b0 Fuel (u0, u1, (0 : Int)) K = impl_KeyOk_w0 u0 u1 (intsOf u0)  0 (Sum.elim (fun z => K (.inl (u0, z.1, z.2))) (fun z => K (.inr (u0, u1, z)))) :=
  impl_KeyOk_lw0 h0 (intsOf u0) 0  Fuel rfl (lws_fuel h0)

def impl_KeyOk_t (a0 : ByteArray) (k : Bool → Option Res) : Option Res :=
  impl_KeyOk_w0 a0 false (intsOf a0)  0 (Sum.elim (fun z13 =>
    k z13.1) (fun _ =>
    impl_within_k (a0.size : Int) (1 : Int) (3 : Int) (fun y15 =>
      k y15)))

theorem impl_KeyOk_r {a0 : ByteArray} (h0 : a0.size < 9223372036854775807) {k : Bool → Option Res} : impl_KeyOk_k a0 k = impl_KeyOk_t a0 k := by
  rw [impl_KeyOk_e]
  simp only [impl_KeyOk_d, impl_KeyOk_t, (impl_KeyOk_lz0 h0), Sum.elim_inl, Sum.elim_inr]

def impl_WritesOk_w0 (u0 : (List dWrite)) (u1 : Bool) (u2 : (List dWrite)) : List dWrite → Nat → (((Bool × Int) ⊕ Int) → Option Res) → Option Res
  | [], i, k =>
    k (.inr (i : Int))
  | y :: l, i, k =>
    impl_WriteOk_k y (fun y1 =>
      bif (!y1) then
        k (.inl (false, (i : Int)))
      else
        bif (decide ((i : Int) > (0 : Int))) then
          if 0 ≤ (IntKind.wrap .i64 ((i : Int) - (1 : Int))) ∧ (IntKind.wrap .i64 ((i : Int) - (1 : Int))) < (u0.length : Int) then
            bif (!(strLess ((rd (Ty.zero tWrite) u0 (IntKind.wrap .i64 ((i : Int) - (1 : Int)))).1) (y.1))) then
              k (.inl (false, (i : Int)))
            else
              impl_WritesOk_w0 u0 u1 u2 l (i + 1) k
          else none
        else
          impl_WritesOk_w0 u0 u1 u2 l (i + 1) k)

theorem impl_WritesOk_lw0 {u0} {u1} {u2} (h0 : u2.length < 9223372036854775807) {K : (q26T ⊕ q26T) → Option Res} : ∀ (l : List dWrite) (i : Nat)  (n : Nat), u2.drop i = l → l.length < n → loopK impl_WritesOk_b0 n (u0, u1, u2, (u2.length : Int), (i : Int)) K = impl_WritesOk_w0 u0 u1 u2 l  i (Sum.elim (fun z => K (.inl (u0, z.1, u2, (u2.length : Int), z.2))) (fun z => K (.inr (u0, u1, u2, (u2.length : Int), z)))) := by
  intro l
  induction l with
  | nil =>
    intro i  n hd hn
    have hge := lwl_nil hd
    cases n with
    | zero => exact absurd hn (Nat.not_lt_zero _)
    | succ n => simp only [loopK, impl_WritesOk_b0, impl_WritesOk_w0, hge, decide_false, cond_false, Sum.elim_inr, Sum.elim_inl]
  | cons y l ih =>
    intro i  n hd hn
    obtain ⟨hlt, hz, hd2, hw, hnn⟩ := lwl_cons hd h0
    have hy := lwl_get hd
    cases n with
    | zero => exact absurd hn (Nat.not_lt_zero _)
    | succ n =>
      have ih2 := ih (i + 1)  n hd2 (Nat.lt_of_succ_lt_succ hn)
      simp only [loopK, impl_WritesOk_b0, impl_WritesOk_w0, hlt, hz, decide_true, cond_true, and_self, if_true, hy, hw, hnn, Sum.elim_inl, Sum.elim_inr, ih2]

theorem impl_WritesOk_lz0 {u0} {u1} {u2} (h0 : u2.length < 9223372036854775807) {K : (q26T ⊕ q26T) → Option Res}  : loopK impl_WritesOk_b0 Fuel (u0, u1, u2, (u2.length : Int), (0 : Int)) K = impl_WritesOk_w0 u0 u1 u2 u2  0 (Sum.elim (fun z => K (.inl (u0, z.1, u2, (u2.length : Int), z.2))) (fun z => K (.inr (u0, u1, u2, (u2.length : Int), z)))) :=
  impl_WritesOk_lw0 h0 u2 0  Fuel rfl (lwl_fuel h0)

def impl_WritesOk_t (a0 : (List dWrite)) (k : Bool → Option Res) : Option Res :=
  impl_WritesOk_w0 a0 false a0 a0  0 (Sum.elim (fun z13 =>
    k z13.1) (fun _ =>
    k (decide ((a0.length : Int) ≤ (8 : Int)))))

theorem impl_WritesOk_r {a0 : (List dWrite)} (h0 : a0.length < 9223372036854775807) {k : Bool → Option Res} : impl_WritesOk_k a0 k = impl_WritesOk_t a0 k := by
  rw [impl_WritesOk_e]
  simp only [impl_WritesOk_d, impl_WritesOk_t, (impl_WritesOk_lz0 h0), Sum.elim_inl, Sum.elim_inr]

def impl_TxnOk_wj5000011 (u0 : Bool) (u1 : Int) (u2 : Int) (u3 : Int) (u4 : Int) (u5 : (List dRange)) (u6 : (List dWrite)) (u7 : Bool) (u8 : ByteArray) (k : Bool → Option Res) : Option Res :=
    bif (u2 == (2 : Int)) then
      impl_KeyOk_k u8 (fun y1 =>
        bif y1 then
          k true
        else
          bif (u2 != (2 : Int)) then
            k (strEq u8 (⟨#[]⟩ : ByteArray))
          else
            k false)
    else
      bif (u2 != (2 : Int)) then
        k (strEq u8 (⟨#[]⟩ : ByteArray))
      else
        k false

theorem impl_TxnOk_wz5000011 {u0} {u1} {u2} {u3} {u4} {u5} {u6} {u7} {u8}  {K : q32T → Option Res} : impl_TxnOk_j5000011 (u0, u1, u2, u3, u4, u5, u6, u7, u8) K = impl_TxnOk_wj5000011 u0 u1 u2 u3 u4 u5 u6 u7 u8 (fun z => K (z, u1, u2, u3, u4, u5, u6, u7, u8)) := by
  simp only [impl_TxnOk_j5000011, impl_TxnOk_wj5000011, Sum.elim_inl, Sum.elim_inr]

def impl_TxnOk_wj5000009 (u0 : Bool) (u1 : Int) (u2 : Int) (u3 : Int) (u4 : Int) (u5 : (List dRange)) (u6 : (List dWrite)) (u7 : Bool) (u8 : ByteArray) (k : Bool → Option Res) : Option Res :=
    bif (u2 == (3 : Int)) then
      impl_within_k u4 (IntKind.wrap .i64 (u3 + (1 : Int))) (9999 : Int) (fun y1 =>
        bif (!y1) then
          k false
        else
          bif (u2 != (3 : Int)) then
            bif (u4 != (0 : Int)) then
              k false
            else
              impl_TxnOk_wj5000011 u0 u1 u2 u3 u4 u5 u6 u7 u8 (fun z2 =>
                k z2)
          else
            impl_TxnOk_wj5000011 u0 u1 u2 u3 u4 u5 u6 u7 u8 (fun z3 =>
              k z3))
    else
      bif (u2 != (3 : Int)) then
        bif (u4 != (0 : Int)) then
          k false
        else
          impl_TxnOk_wj5000011 u0 u1 u2 u3 u4 u5 u6 u7 u8 (fun z4 =>
            k z4)
      else
        impl_TxnOk_wj5000011 u0 u1 u2 u3 u4 u5 u6 u7 u8 (fun z5 =>
          k z5)

theorem impl_TxnOk_wz5000009 {u0} {u1} {u2} {u3} {u4} {u5} {u6} {u7} {u8}  {K : q32T → Option Res} : impl_TxnOk_j5000009 (u0, u1, u2, u3, u4, u5, u6, u7, u8) K = impl_TxnOk_wj5000009 u0 u1 u2 u3 u4 u5 u6 u7 u8 (fun z => K (z, u1, u2, u3, u4, u5, u6, u7, u8)) := by
  simp only [impl_TxnOk_j5000009, impl_TxnOk_wj5000009, impl_TxnOk_wz5000011, Sum.elim_inl, Sum.elim_inr]

def impl_TxnOk_w0 (u0 : Bool) (u1 : (List dRange)) (u4 : Int) (u5 : Int) (u6 : Int) (u7 : Int) (u8 : (List dRange)) (u9 : (List dWrite)) (u10 : Bool) (u11 : ByteArray) : List dRange → Nat → (((Bool × Int) ⊕ Int) → Option Res) → Option Res
  | [], i, k =>
    k (.inr (i : Int))
  | y :: l, i, k =>
    impl_RangeOk_k y (fun y1 =>
      bif (!y1) then
        k (.inl (false, (i : Int)))
      else
        impl_TxnOk_w0 u0 u1 u4 u5 u6 u7 u8 u9 u10 u11 l (i + 1) k)

theorem impl_TxnOk_lw0 {u0} {u1} {u4} {u5} {u6} {u7} {u8} {u9} {u10} {u11} (h0 : u1.length < 9223372036854775807) {K : (q30T ⊕ q30T) → Option Res} : ∀ (l : List dRange) (i : Nat)  (n : Nat), u1.drop i = l → l.length < n → loopK impl_TxnOk_b0 n (u0, u1, (u1.length : Int), (i : Int), u4, u5, u6, u7, u8, u9, u10, u11) K = impl_TxnOk_w0 u0 u1 u4 u5 u6 u7 u8 u9 u10 u11 l  i (Sum.elim (fun z => K (.inl (z.1, u1, (u1.length : Int), z.2, u4, u5, u6, u7, u8, u9, u10, u11))) (fun z => K (.inr (u0, u1, (u1.length : Int), z, u4, u5, u6, u7, u8, u9, u10, u11)))) := by
  intro l
  induction l with
  | nil =>
    intro i  n hd hn
    have hge := lwl_nil hd
    cases n with
    | zero => exact absurd hn (Nat.not_lt_zero _)
    | succ n => simp only [loopK, impl_TxnOk_b0, impl_TxnOk_w0, hge, decide_false, cond_false, Sum.elim_inr, Sum.elim_inl]
  | cons y l ih =>
    intro i  n hd hn
    obtain ⟨hlt, hz, hd2, hw, hnn⟩ := lwl_cons hd h0
    have hy := lwl_get hd
    cases n with
    | zero => exact absurd hn (Nat.not_lt_zero _)
    | succ n =>
      have ih2 := ih (i + 1)  n hd2 (Nat.lt_of_succ_lt_succ hn)
      simp only [loopK, impl_TxnOk_b0, impl_TxnOk_w0, hlt, hz, decide_true, cond_true, and_self, if_true, hy, hw, hnn, Sum.elim_inl, Sum.elim_inr, ih2]

theorem impl_TxnOk_lz0 {u0} {u1} {u4} {u5} {u6} {u7} {u8} {u9} {u10} {u11} (h0 : u1.length < 9223372036854775807) {K : (q30T ⊕ q30T) → Option Res}  : loopK impl_TxnOk_b0 Fuel (u0, u1, (u1.length : Int), (0 : Int), u4, u5, u6, u7, u8, u9, u10, u11) K = impl_TxnOk_w0 u0 u1 u4 u5 u6 u7 u8 u9 u10 u11 u1  0 (Sum.elim (fun z => K (.inl (z.1, u1, (u1.length : Int), z.2, u4, u5, u6, u7, u8, u9, u10, u11))) (fun z => K (.inr (u0, u1, (u1.length : Int), z, u4, u5, u6, u7, u8, u9, u10, u11)))) :=
  impl_TxnOk_lw0 h0 u1 0  Fuel rfl (lwl_fuel h0)

def impl_TxnOk_t (a0 : dTxn) (k : Bool → Option Res) : Option Res :=
  impl_TxnOk_w0 false a0.2.2.2.2.1 a0.1 a0.2.1 a0.2.2.1 a0.2.2.2.1 a0.2.2.2.2.1 a0.2.2.2.2.2.1 a0.2.2.2.2.2.2.1 a0.2.2.2.2.2.2.2 a0.2.2.2.2.1  0 (Sum.elim (fun z13 =>
    k z13.1) (fun _ =>
    impl_within_k a0.1 (1 : Int) (9999 : Int) (fun y15 =>
      bif (!y15) then
        k false
      else
        impl_within_k a0.2.1 (1 : Int) (3 : Int) (fun y16 =>
          bif (!y16) then
            k false
          else
            impl_within_k a0.2.2.1 (0 : Int) (9999 : Int) (fun y17 =>
              bif (!y17) then
                k false
              else
                bif (decide ((a0.2.2.2.2.1.length : Int) > (8 : Int))) then
                  k false
                else
                  impl_WritesOk_k a0.2.2.2.2.2.1 (fun y18 =>
                    bif (!y18) then
                      k false
                    else
                      bif a0.2.2.2.2.2.2.1 then
                        bif (a0.2.1 == (1 : Int)) then
                          k false
                        else
                          impl_TxnOk_wj5000009 false a0.1 a0.2.1 a0.2.2.1 a0.2.2.2.1 a0.2.2.2.2.1 a0.2.2.2.2.2.1 a0.2.2.2.2.2.2.1 a0.2.2.2.2.2.2.2 (fun z19 =>
                            k z19)
                      else
                        impl_TxnOk_wj5000009 false a0.1 a0.2.1 a0.2.2.1 a0.2.2.2.1 a0.2.2.2.2.1 a0.2.2.2.2.2.1 a0.2.2.2.2.2.2.1 a0.2.2.2.2.2.2.2 (fun z20 =>
                          k z20)))))))

theorem impl_TxnOk_r {a0 : dTxn} (h0 : a0.2.2.2.2.1.length < 9223372036854775807) {k : Bool → Option Res} : impl_TxnOk_k a0 k = impl_TxnOk_t a0 k := by
  rw [impl_TxnOk_e]
  simp only [impl_TxnOk_d, impl_TxnOk_t, impl_TxnOk_wz5000009, (impl_TxnOk_lz0 h0), Sum.elim_inl, Sum.elim_inr]

def impl_plan_num_w0 (u0 : (List Int)) : List Int → (List Int) → Nat → ((Int × (List Int)) → Option Res) → Option Res
  | [], s3, i, k =>
    k ((i : Int), s3)
  | y :: l, s3, i, k =>
    impl_VarText_k y (fun y1 =>
      if s3.length + (intsOf y1.1).length ≤ VE.maxLen then
        impl_plan_num_w0 u0 l (s3 ++ (intsOf y1.1)) (i + 1) k
      else none)

theorem impl_plan_num_lw0 {u0} (h0 : u0.length < 9223372036854775807) {K : q3T → Option Res} : ∀ (l : List Int) (i : Nat) (s3 : (List Int)) (n : Nat), u0.drop i = l → l.length < n → loopK impl_plan_num_b0 n (u0, (u0.length : Int), (i : Int), s3) K = impl_plan_num_w0 u0 l s3 i (fun z => K (u0, (u0.length : Int), z.1, z.2)) := by
  intro l
  induction l with
  | nil =>
    intro i s3 n hd hn
    have hge := lwl_nil hd
    cases n with
    | zero => exact absurd hn (Nat.not_lt_zero _)
    | succ n => simp only [loopK, impl_plan_num_b0, impl_plan_num_w0, hge, decide_false, cond_false, Sum.elim_inr, Sum.elim_inl]
  | cons y l ih =>
    intro i s3 n hd hn
    obtain ⟨hlt, hz, hd2, hw, hnn⟩ := lwl_cons hd h0
    have hy := lwl_get hd
    cases n with
    | zero => exact absurd hn (Nat.not_lt_zero _)
    | succ n =>
      have ih2 := fun (s3 : (List Int)) => ih (i + 1) s3 n hd2 (Nat.lt_of_succ_lt_succ hn)
      simp only [loopK, impl_plan_num_b0, impl_plan_num_w0, hlt, hz, decide_true, cond_true, and_self, if_true, hy, hw, hnn, Sum.elim_inl, Sum.elim_inr, ih2]

theorem impl_plan_num_lz0 {u0} (h0 : u0.length < 9223372036854775807) {K : q3T → Option Res} {s3 : (List Int)} : loopK impl_plan_num_b0 Fuel (u0, (u0.length : Int), (0 : Int), s3) K = impl_plan_num_w0 u0 u0 s3 0 (fun z => K (u0, (u0.length : Int), z.1, z.2)) :=
  impl_plan_num_lw0 h0 u0 0 s3 Fuel rfl (lwl_fuel h0)

def impl_plan_num_t (a0 : (List Int)) (k : (List Int) → Option Res) : Option Res :=
  impl_plan_num_w0 a0 a0 ([] : List Int) 0 (fun z13 =>
    k z13.2)

theorem impl_plan_num_r {a0 : (List Int)} (h0 : a0.length < 9223372036854775807) {k : (List Int) → Option Res} : impl_plan_num_k a0 k = impl_plan_num_t a0 k := by
  rw [impl_plan_num_e]
  simp only [impl_plan_num_d, impl_plan_num_t, (impl_plan_num_lz0 h0), Sum.elim_inl, Sum.elim_inr]

def impl_TxnText_w0 (u0 : (List dRange)) (u3 : Int) (u4 : Int) (u5 : Int) (u6 : Int) (u7 : (List dRange)) (u8 : (List dWrite)) (u9 : Bool) (u10 : ByteArray) : List dRange → (List Int) → Nat → ((Int × (List Int)) → Option Res) → Option Res
  | [], s11, i, k =>
    k ((i : Int), s11)
  | y :: l, s11, i, k =>
    impl_plan_text_k [y.1, y.2] s11 (Sum.elim (fun y1 =>
      impl_TxnText_w0 u0 u3 u4 u5 u6 u7 u8 u9 u10 l y1 (i + 1) k) (fun y2 =>
      impl_TxnText_w0 u0 u3 u4 u5 u6 u7 u8 u9 u10 l y2 (i + 1) k))

theorem impl_TxnText_lw0 {u0} {u3} {u4} {u5} {u6} {u7} {u8} {u9} {u10} (h0 : u0.length < 9223372036854775807) {K : q7T → Option Res} : ∀ (l : List dRange) (i : Nat) (s11 : (List Int)) (n : Nat), u0.drop i = l → l.length < n → loopK impl_TxnText_b0 n (u0, (u0.length : Int), (i : Int), u3, u4, u5, u6, u7, u8, u9, u10, s11) K = impl_TxnText_w0 u0 u3 u4 u5 u6 u7 u8 u9 u10 l s11 i (fun z => K (u0, (u0.length : Int), z.1, u3, u4, u5, u6, u7, u8, u9, u10, z.2)) := by
  intro l
  induction l with
  | nil =>
    intro i s11 n hd hn
    have hge := lwl_nil hd
    cases n with
    | zero => exact absurd hn (Nat.not_lt_zero _)
    | succ n => simp only [loopK, impl_TxnText_b0, impl_TxnText_w0, hge, decide_false, cond_false, Sum.elim_inr, Sum.elim_inl]
  | cons y l ih =>
    intro i s11 n hd hn
    obtain ⟨hlt, hz, hd2, hw, hnn⟩ := lwl_cons hd h0
    have hy := lwl_get hd
    cases n with
    | zero => exact absurd hn (Nat.not_lt_zero _)
    | succ n =>
      have ih2 := fun (s11 : (List Int)) => ih (i + 1) s11 n hd2 (Nat.lt_of_succ_lt_succ hn)
      simp only [loopK, impl_TxnText_b0, impl_TxnText_w0, hlt, hz, decide_true, cond_true, and_self, if_true, hy, hw, hnn, Sum.elim_inl, Sum.elim_inr, ih2]

theorem impl_TxnText_lz0 {u0} {u3} {u4} {u5} {u6} {u7} {u8} {u9} {u10} (h0 : u0.length < 9223372036854775807) {K : q7T → Option Res} {s11 : (List Int)} : loopK impl_TxnText_b0 Fuel (u0, (u0.length : Int), (0 : Int), u3, u4, u5, u6, u7, u8, u9, u10, s11) K = impl_TxnText_w0 u0 u3 u4 u5 u6 u7 u8 u9 u10 u0 s11 0 (fun z => K (u0, (u0.length : Int), z.1, u3, u4, u5, u6, u7, u8, u9, u10, z.2)) :=
  impl_TxnText_lw0 h0 u0 0 s11 Fuel rfl (lwl_fuel h0)

def impl_TxnText_w2 (u0 : (List dWrite)) (u3 : Int) (u4 : Int) (u5 : Int) (u6 : Int) (u7 : (List dRange)) (u8 : (List dWrite)) (u9 : Bool) (u10 : ByteArray) : List dWrite → (List Int) → Nat → ((Int × (List Int)) → Option Res) → Option Res
  | [], s11, i, k =>
    k ((i : Int), s11)
  | y :: l, s11, i, k =>
    impl_plan_text_k [y.1, y.2.1] s11 (Sum.elim (fun y1 =>
      impl_plan_flag_k y.2.2 y1 (fun y2 =>
        impl_TxnText_w2 u0 u3 u4 u5 u6 u7 u8 u9 u10 l y2 (i + 1) k)) (fun y3 =>
      impl_plan_flag_k y.2.2 y3 (fun y4 =>
        impl_TxnText_w2 u0 u3 u4 u5 u6 u7 u8 u9 u10 l y4 (i + 1) k)))

theorem impl_TxnText_lw2 {u0} {u3} {u4} {u5} {u6} {u7} {u8} {u9} {u10} (h0 : u0.length < 9223372036854775807) {K : q28T → Option Res} : ∀ (l : List dWrite) (i : Nat) (s11 : (List Int)) (n : Nat), u0.drop i = l → l.length < n → loopK impl_TxnText_b2 n (u0, (u0.length : Int), (i : Int), u3, u4, u5, u6, u7, u8, u9, u10, s11) K = impl_TxnText_w2 u0 u3 u4 u5 u6 u7 u8 u9 u10 l s11 i (fun z => K (u0, (u0.length : Int), z.1, u3, u4, u5, u6, u7, u8, u9, u10, z.2)) := by
  intro l
  induction l with
  | nil =>
    intro i s11 n hd hn
    have hge := lwl_nil hd
    cases n with
    | zero => exact absurd hn (Nat.not_lt_zero _)
    | succ n => simp only [loopK, impl_TxnText_b2, impl_TxnText_w2, hge, decide_false, cond_false, Sum.elim_inr, Sum.elim_inl]
  | cons y l ih =>
    intro i s11 n hd hn
    obtain ⟨hlt, hz, hd2, hw, hnn⟩ := lwl_cons hd h0
    have hy := lwl_get hd
    cases n with
    | zero => exact absurd hn (Nat.not_lt_zero _)
    | succ n =>
      have ih2 := fun (s11 : (List Int)) => ih (i + 1) s11 n hd2 (Nat.lt_of_succ_lt_succ hn)
      simp only [loopK, impl_TxnText_b2, impl_TxnText_w2, hlt, hz, decide_true, cond_true, and_self, if_true, hy, hw, hnn, Sum.elim_inl, Sum.elim_inr, ih2]

theorem impl_TxnText_lz2 {u0} {u3} {u4} {u5} {u6} {u7} {u8} {u9} {u10} (h0 : u0.length < 9223372036854775807) {K : q28T → Option Res} {s11 : (List Int)} : loopK impl_TxnText_b2 Fuel (u0, (u0.length : Int), (0 : Int), u3, u4, u5, u6, u7, u8, u9, u10, s11) K = impl_TxnText_w2 u0 u3 u4 u5 u6 u7 u8 u9 u10 u0 s11 0 (fun z => K (u0, (u0.length : Int), z.1, u3, u4, u5, u6, u7, u8, u9, u10, z.2)) :=
  impl_TxnText_lw2 h0 u0 0 s11 Fuel rfl (lwl_fuel h0)

def impl_TxnText_t (a0 : dTxn) (k : (ByteArray × Bool) → Option Res) : Option Res :=
  impl_TxnOk_k a0 (fun y13 =>
    bif (!y13) then
      k ((⟨#[]⟩ : ByteArray), false)
    else
      impl_plan_num_k [a0.1, a0.2.1, a0.2.2.1, a0.2.2.2.1, (a0.2.2.2.2.1.length : Int)] (fun y14 =>
        impl_TxnText_w0 a0.2.2.2.2.1 a0.1 a0.2.1 a0.2.2.1 a0.2.2.2.1 a0.2.2.2.2.1 a0.2.2.2.2.2.1 a0.2.2.2.2.2.2.1 a0.2.2.2.2.2.2.2 a0.2.2.2.2.1 y14 0 (fun z15 =>
          impl_plan_num_61bd_k [(a0.2.2.2.2.2.1.length : Int)] z15.2 (Sum.elim (fun y16 =>
            impl_TxnText_w2 a0.2.2.2.2.2.1 a0.1 a0.2.1 a0.2.2.1 a0.2.2.2.1 a0.2.2.2.2.1 a0.2.2.2.2.2.1 a0.2.2.2.2.2.2.1 a0.2.2.2.2.2.2.2 a0.2.2.2.2.2.1 y16 0 (fun z17 =>
              impl_plan_flag_k a0.2.2.2.2.2.2.1 z17.2 (fun y18 =>
                impl_plan_text_k [a0.2.2.2.2.2.2.2] y18 (Sum.elim (fun y19 =>
                  k ((bytesOf y19), true)) (fun y20 =>
                  k ((bytesOf y20), true)))))) (fun y21 =>
            impl_TxnText_w2 a0.2.2.2.2.2.1 a0.1 a0.2.1 a0.2.2.1 a0.2.2.2.1 a0.2.2.2.2.1 a0.2.2.2.2.2.1 a0.2.2.2.2.2.2.1 a0.2.2.2.2.2.2.2 a0.2.2.2.2.2.1 y21 0 (fun z22 =>
              impl_plan_flag_k a0.2.2.2.2.2.2.1 z22.2 (fun y23 =>
                impl_plan_text_k [a0.2.2.2.2.2.2.2] y23 (Sum.elim (fun y24 =>
                  k ((bytesOf y24), true)) (fun y25 =>
                  k ((bytesOf y25), true))))))))))

theorem impl_TxnText_r {a0 : dTxn} (h0 : a0.2.2.2.2.2.1.length < 9223372036854775807) (h1 : a0.2.2.2.2.1.length < 9223372036854775807) {k : (ByteArray × Bool) → Option Res} : impl_TxnText_k a0 k = impl_TxnText_t a0 k := by
  rw [impl_TxnText_e]
  simp only [impl_TxnText_d, impl_TxnText_t, (impl_TxnText_lz2 h0), (impl_TxnText_lz0 h1), Sum.elim_inl, Sum.elim_inr]

def slices_EqualFunc_Txn_sameText_w0 (u0 : (List dTxn)) (u1 : Bool) (u2 : (List dTxn)) : List dTxn → Nat → (((Bool × Int) ⊕ Int) → Option Res) → Option Res
  | [], i, k =>
    k (.inr (i : Int))
  | y :: l, i, k =>
    if 0 ≤ (i : Int) ∧ (i : Int) < (u0.length : Int) then
      impl_sameText_k y (rd (Ty.zero tTxn) u0 (i : Int)) (fun y1 =>
        bif (!y1) then
          k (.inl (false, (i : Int)))
        else
          slices_EqualFunc_Txn_sameText_w0 u0 u1 u2 l (i + 1) k)
    else none

theorem slices_EqualFunc_Txn_sameText_lw0 {u0} {u1} {u2} (h0 : u2.length < 9223372036854775807) {K : (q10T ⊕ q10T) → Option Res} : ∀ (l : List dTxn) (i : Nat)  (n : Nat), u2.drop i = l → l.length < n → loopK slices_EqualFunc_Txn_sameText_b0 n (u0, u1, u2, (u2.length : Int), (i : Int)) K = slices_EqualFunc_Txn_sameText_w0 u0 u1 u2 l  i (Sum.elim (fun z => K (.inl (u0, z.1, u2, (u2.length : Int), z.2))) (fun z => K (.inr (u0, u1, u2, (u2.length : Int), z)))) := by
  intro l
  induction l with
  | nil =>
    intro i  n hd hn
    have hge := lwl_nil hd
    cases n with
    | zero => exact absurd hn (Nat.not_lt_zero _)
    | succ n => simp only [loopK, slices_EqualFunc_Txn_sameText_b0, slices_EqualFunc_Txn_sameText_w0, hge, decide_false, cond_false, Sum.elim_inr, Sum.elim_inl]
  | cons y l ih =>
    intro i  n hd hn
    obtain ⟨hlt, hz, hd2, hw, hnn⟩ := lwl_cons hd h0
    have hy := lwl_get hd
    cases n with
    | zero => exact absurd hn (Nat.not_lt_zero _)
    | succ n =>
      have ih2 := ih (i + 1)  n hd2 (Nat.lt_of_succ_lt_succ hn)
      simp only [loopK, slices_EqualFunc_Txn_sameText_b0, slices_EqualFunc_Txn_sameText_w0, hlt, hz, decide_true, cond_true, and_self, if_true, hy, hw, hnn, Sum.elim_inl, Sum.elim_inr, ih2]

theorem slices_EqualFunc_Txn_sameText_lz0 {u0} {u1} {u2} (h0 : u2.length < 9223372036854775807) {K : (q10T ⊕ q10T) → Option Res}  : loopK slices_EqualFunc_Txn_sameText_b0 Fuel (u0, u1, u2, (u2.length : Int), (0 : Int)) K = slices_EqualFunc_Txn_sameText_w0 u0 u1 u2 u2  0 (Sum.elim (fun z => K (.inl (u0, z.1, u2, (u2.length : Int), z.2))) (fun z => K (.inr (u0, u1, u2, (u2.length : Int), z)))) :=
  slices_EqualFunc_Txn_sameText_lw0 h0 u2 0  Fuel rfl (lwl_fuel h0)

def slices_EqualFunc_Txn_sameText_t (a0 : (List dTxn)) (a1 : (List dTxn)) (k : Bool → Option Res) : Option Res :=
  bif ((a0.length : Int) != (a1.length : Int)) then
    k false
  else
    slices_EqualFunc_Txn_sameText_w0 a1 false a0 a0  0 (Sum.elim (fun z13 =>
      k z13.1) (fun _ =>
      k true))

theorem slices_EqualFunc_Txn_sameText_r {a0 : (List dTxn)} {a1 : (List dTxn)} (h0 : a0.length < 9223372036854775807) {k : Bool → Option Res} : slices_EqualFunc_Txn_sameText_k a0 a1 k = slices_EqualFunc_Txn_sameText_t a0 a1 k := by
  rw [slices_EqualFunc_Txn_sameText_e]
  simp only [slices_EqualFunc_Txn_sameText_d, slices_EqualFunc_Txn_sameText_t, (slices_EqualFunc_Txn_sameText_lz0 h0), Sum.elim_inl, Sum.elim_inr]

def slices_Concat_Version_w0 (u0 : (List (List dVersion))) (u2 : (List (List dVersion))) : List (List dVersion) → Int → Nat → ((Int × Int) → Option Res) → Option Res
  | [], s1, i, k =>
    k (s1, (i : Int))
  | y :: l, s1, i, k =>
    bif (decide ((IntKind.wrap .i64 (s1 + (y.length : Int))) < (0 : Int))) then
      none
    else
      slices_Concat_Version_w0 u0 u2 l (IntKind.wrap .i64 (s1 + (y.length : Int))) (i + 1) k

theorem slices_Concat_Version_lw0 {u0} {u2} (h0 : u2.length < 9223372036854775807) {K : q0T → Option Res} : ∀ (l : List (List dVersion)) (i : Nat) (s1 : Int) (n : Nat), u2.drop i = l → l.length < n → loopK slices_Concat_Version_b0 n (u0, s1, u2, (u2.length : Int), (i : Int)) K = slices_Concat_Version_w0 u0 u2 l s1 i (fun z => K (u0, z.1, u2, (u2.length : Int), z.2)) := by
  intro l
  induction l with
  | nil =>
    intro i s1 n hd hn
    have hge := lwl_nil hd
    cases n with
    | zero => exact absurd hn (Nat.not_lt_zero _)
    | succ n => simp only [loopK, slices_Concat_Version_b0, slices_Concat_Version_w0, hge, decide_false, cond_false, Sum.elim_inr, Sum.elim_inl]
  | cons y l ih =>
    intro i s1 n hd hn
    obtain ⟨hlt, hz, hd2, hw, hnn⟩ := lwl_cons hd h0
    have hy := lwl_get hd
    cases n with
    | zero => exact absurd hn (Nat.not_lt_zero _)
    | succ n =>
      have ih2 := fun (s1 : Int) => ih (i + 1) s1 n hd2 (Nat.lt_of_succ_lt_succ hn)
      simp only [loopK, slices_Concat_Version_b0, slices_Concat_Version_w0, hlt, hz, decide_true, cond_true, and_self, if_true, hy, hw, hnn, Sum.elim_inl, Sum.elim_inr, ih2]

theorem slices_Concat_Version_lz0 {u0} {u2} (h0 : u2.length < 9223372036854775807) {K : q0T → Option Res} {s1 : Int} : loopK slices_Concat_Version_b0 Fuel (u0, s1, u2, (u2.length : Int), (0 : Int)) K = slices_Concat_Version_w0 u0 u2 u2 s1 0 (fun z => K (u0, z.1, u2, (u2.length : Int), z.2)) :=
  slices_Concat_Version_lw0 h0 u2 0 s1 Fuel rfl (lwl_fuel h0)

def slices_Concat_Version_w2 (u0 : (List (List dVersion))) : List (List dVersion) → (List dVersion) → Nat → ((Int × (List dVersion)) → Option Res) → Option Res
  | [], s3, i, k =>
    k ((i : Int), s3)
  | y :: l, s3, i, k =>
    if s3.length + y.length ≤ VE.maxLen then
      slices_Concat_Version_w2 u0 l (s3 ++ y) (i + 1) k
    else none

theorem slices_Concat_Version_lw2 {u0} (h0 : u0.length < 9223372036854775807) {K : q1T → Option Res} : ∀ (l : List (List dVersion)) (i : Nat) (s3 : (List dVersion)) (n : Nat), u0.drop i = l → l.length < n → loopK slices_Concat_Version_b2 n (u0, (u0.length : Int), (i : Int), s3) K = slices_Concat_Version_w2 u0 l s3 i (fun z => K (u0, (u0.length : Int), z.1, z.2)) := by
  intro l
  induction l with
  | nil =>
    intro i s3 n hd hn
    have hge := lwl_nil hd
    cases n with
    | zero => exact absurd hn (Nat.not_lt_zero _)
    | succ n => simp only [loopK, slices_Concat_Version_b2, slices_Concat_Version_w2, hge, decide_false, cond_false, Sum.elim_inr, Sum.elim_inl]
  | cons y l ih =>
    intro i s3 n hd hn
    obtain ⟨hlt, hz, hd2, hw, hnn⟩ := lwl_cons hd h0
    have hy := lwl_get hd
    cases n with
    | zero => exact absurd hn (Nat.not_lt_zero _)
    | succ n =>
      have ih2 := fun (s3 : (List dVersion)) => ih (i + 1) s3 n hd2 (Nat.lt_of_succ_lt_succ hn)
      simp only [loopK, slices_Concat_Version_b2, slices_Concat_Version_w2, hlt, hz, decide_true, cond_true, and_self, if_true, hy, hw, hnn, Sum.elim_inl, Sum.elim_inr, ih2]

theorem slices_Concat_Version_lz2 {u0} (h0 : u0.length < 9223372036854775807) {K : q1T → Option Res} {s3 : (List dVersion)} : loopK slices_Concat_Version_b2 Fuel (u0, (u0.length : Int), (0 : Int), s3) K = slices_Concat_Version_w2 u0 u0 s3 0 (fun z => K (u0, (u0.length : Int), z.1, z.2)) :=
  slices_Concat_Version_lw2 h0 u0 0 s3 Fuel rfl (lwl_fuel h0)

def slices_Concat_Version_t (a0 : (List (List dVersion))) (k : (List dVersion) → Option Res) : Option Res :=
  slices_Concat_Version_w0 a0 a0 a0 (0 : Int) 0 (fun z13 =>
    slices_Grow_Version_vn_k z13.1 (fun y14 =>
      slices_Concat_Version_w2 a0 a0 y14 0 (fun z15 =>
        k z15.2)))

theorem slices_Concat_Version_r {a0 : (List (List dVersion))} (h0 : a0.length < 9223372036854775807) {k : (List dVersion) → Option Res} : slices_Concat_Version_k a0 k = slices_Concat_Version_t a0 k := by
  rw [slices_Concat_Version_e]
  simp only [slices_Concat_Version_d, slices_Concat_Version_t, (slices_Concat_Version_lz2 h0), (slices_Concat_Version_lz0 h0), Sum.elim_inl, Sum.elim_inr]

def impl_keysOf_w0 (u0 : (List dVersion)) : List dVersion → (List ByteArray) → Nat → ((Int × (List ByteArray)) → Option Res) → Option Res
  | [], s3, i, k =>
    k ((i : Int), s3)
  | y :: l, s3, i, k =>
    if s3.length + [y.1].length ≤ VE.maxLen then
      impl_keysOf_w0 u0 l (s3 ++ [y.1]) (i + 1) k
    else none

theorem impl_keysOf_lw0 {u0} (h0 : u0.length < 9223372036854775807) {K : q21T → Option Res} : ∀ (l : List dVersion) (i : Nat) (s3 : (List ByteArray)) (n : Nat), u0.drop i = l → l.length < n → loopK impl_keysOf_b0 n (u0, (u0.length : Int), (i : Int), s3) K = impl_keysOf_w0 u0 l s3 i (fun z => K (u0, (u0.length : Int), z.1, z.2)) := by
  intro l
  induction l with
  | nil =>
    intro i s3 n hd hn
    have hge := lwl_nil hd
    cases n with
    | zero => exact absurd hn (Nat.not_lt_zero _)
    | succ n => simp only [loopK, impl_keysOf_b0, impl_keysOf_w0, hge, decide_false, cond_false, Sum.elim_inr, Sum.elim_inl]
  | cons y l ih =>
    intro i s3 n hd hn
    obtain ⟨hlt, hz, hd2, hw, hnn⟩ := lwl_cons hd h0
    have hy := lwl_get hd
    cases n with
    | zero => exact absurd hn (Nat.not_lt_zero _)
    | succ n =>
      have ih2 := fun (s3 : (List ByteArray)) => ih (i + 1) s3 n hd2 (Nat.lt_of_succ_lt_succ hn)
      simp only [loopK, impl_keysOf_b0, impl_keysOf_w0, hlt, hz, decide_true, cond_true, and_self, if_true, hy, hw, hnn, Sum.elim_inl, Sum.elim_inr, ih2]

theorem impl_keysOf_lz0 {u0} (h0 : u0.length < 9223372036854775807) {K : q21T → Option Res} {s3 : (List ByteArray)} : loopK impl_keysOf_b0 Fuel (u0, (u0.length : Int), (0 : Int), s3) K = impl_keysOf_w0 u0 u0 s3 0 (fun z => K (u0, (u0.length : Int), z.1, z.2)) :=
  impl_keysOf_lw0 h0 u0 0 s3 Fuel rfl (lwl_fuel h0)

def impl_keysOf_t (a0 : (List dVersion)) (k : (List ByteArray) → Option Res) : Option Res :=
  impl_keysOf_w0 a0 a0 ([] : List ByteArray) 0 (fun z13 =>
    slices_Sort_string_vo_k z13.2 (fun y14 =>
      slices_Compact_string_vo_k y14 (Sum.elim (fun y15 =>
        k y15) (fun y16 =>
        k y16))))

theorem impl_keysOf_r {a0 : (List dVersion)} (h0 : a0.length < 9223372036854775807) {k : (List ByteArray) → Option Res} : impl_keysOf_k a0 k = impl_keysOf_t a0 k := by
  rw [impl_keysOf_e]
  simp only [impl_keysOf_d, impl_keysOf_t, (impl_keysOf_lz0 h0), Sum.elim_inl, Sum.elim_inr]

def impl_lastAt_w0 (u0 : (List dVersion)) (u1 : ByteArray) (u2 : Int) (u4 : (List dVersion)) : List dVersion → Int → Nat → ((Int × Int) → Option Res) → Option Res
  | [], s3, i, k =>
    k (s3, (i : Int))
  | y :: l, s3, i, k =>
    bif (strEq (y.1) u1) then
      bif (decide (y.2.2.2 ≤ u2)) then
        bif (decide (s3 < (0 : Int))) then
          impl_lastAt_w0 u0 u1 u2 u4 l (i : Int) (i + 1) k
        else
          if 0 ≤ s3 ∧ s3 < (u0.length : Int) then
            bif (decide (y.2.2.2 > (rd (Ty.zero tVersion) u0 s3).2.2.2)) then
              impl_lastAt_w0 u0 u1 u2 u4 l (i : Int) (i + 1) k
            else
              impl_lastAt_w0 u0 u1 u2 u4 l s3 (i + 1) k
          else none
      else
        impl_lastAt_w0 u0 u1 u2 u4 l s3 (i + 1) k
    else
      impl_lastAt_w0 u0 u1 u2 u4 l s3 (i + 1) k

theorem impl_lastAt_lw0 {u0} {u1} {u2} {u4} (h0 : u4.length < 9223372036854775807) {K : q16T → Option Res} : ∀ (l : List dVersion) (i : Nat) (s3 : Int) (n : Nat), u4.drop i = l → l.length < n → loopK impl_lastAt_b0 n (u0, u1, u2, s3, u4, (u4.length : Int), (i : Int)) K = impl_lastAt_w0 u0 u1 u2 u4 l s3 i (fun z => K (u0, u1, u2, z.1, u4, (u4.length : Int), z.2)) := by
  intro l
  induction l with
  | nil =>
    intro i s3 n hd hn
    have hge := lwl_nil hd
    cases n with
    | zero => exact absurd hn (Nat.not_lt_zero _)
    | succ n => simp only [loopK, impl_lastAt_b0, impl_lastAt_w0, hge, decide_false, cond_false, Sum.elim_inr, Sum.elim_inl]
  | cons y l ih =>
    intro i s3 n hd hn
    obtain ⟨hlt, hz, hd2, hw, hnn⟩ := lwl_cons hd h0
    have hy := lwl_get hd
    cases n with
    | zero => exact absurd hn (Nat.not_lt_zero _)
    | succ n =>
      have ih2 := fun (s3 : Int) => ih (i + 1) s3 n hd2 (Nat.lt_of_succ_lt_succ hn)
      simp only [loopK, impl_lastAt_b0, impl_lastAt_w0, hlt, hz, decide_true, cond_true, and_self, if_true, hy, hw, hnn, Sum.elim_inl, Sum.elim_inr, ih2]

theorem impl_lastAt_lz0 {u0} {u1} {u2} {u4} (h0 : u4.length < 9223372036854775807) {K : q16T → Option Res} {s3 : Int} : loopK impl_lastAt_b0 Fuel (u0, u1, u2, s3, u4, (u4.length : Int), (0 : Int)) K = impl_lastAt_w0 u0 u1 u2 u4 u4 s3 0 (fun z => K (u0, u1, u2, z.1, u4, (u4.length : Int), z.2)) :=
  impl_lastAt_lw0 h0 u4 0 s3 Fuel rfl (lwl_fuel h0)

def impl_lastAt_t (a0 : (List dVersion)) (a1 : ByteArray) (a2 : Int) (k : Int → Option Res) : Option Res :=
  impl_lastAt_w0 a0 a1 a2 a0 a0 (-1 : Int) 0 (fun z13 =>
    k z13.1)

theorem impl_lastAt_r {a0 : (List dVersion)} {a1 : ByteArray} {a2 : Int} (h0 : a0.length < 9223372036854775807) {k : Int → Option Res} : impl_lastAt_k a0 a1 a2 k = impl_lastAt_t a0 a1 a2 k := by
  rw [impl_lastAt_e]
  simp only [impl_lastAt_d, impl_lastAt_t, (impl_lastAt_lz0 h0), Sum.elim_inl, Sum.elim_inr]

def slices_Equal_Pair_w0 (u0 : (List dRange)) (u1 : (List dRange)) (u2 : Bool) : List dRange → Nat → (((Bool × Int) ⊕ Int) → Option Res) → Option Res
  | [], i, k =>
    k (.inr (i : Int))
  | y :: l, i, k =>
    if 0 ≤ (i : Int) ∧ (i : Int) < (u1.length : Int) then
      bif (!(Ty.eqB tRange y (rd (Ty.zero tRange) u1 (i : Int)))) then
        k (.inl (false, (i : Int)))
      else
        slices_Equal_Pair_w0 u0 u1 u2 l (i + 1) k
    else none

theorem slices_Equal_Pair_lw0 {u0} {u1} {u2} (h0 : u0.length < 9223372036854775807) {K : (q4T ⊕ q4T) → Option Res} : ∀ (l : List dRange) (i : Nat)  (n : Nat), u0.drop i = l → l.length < n → loopK slices_Equal_Pair_b0 n (u0, u1, u2, (u0.length : Int), (i : Int)) K = slices_Equal_Pair_w0 u0 u1 u2 l  i (Sum.elim (fun z => K (.inl (u0, u1, z.1, (u0.length : Int), z.2))) (fun z => K (.inr (u0, u1, u2, (u0.length : Int), z)))) := by
  intro l
  induction l with
  | nil =>
    intro i  n hd hn
    have hge := lwl_nil hd
    cases n with
    | zero => exact absurd hn (Nat.not_lt_zero _)
    | succ n => simp only [loopK, slices_Equal_Pair_b0, slices_Equal_Pair_w0, hge, decide_false, cond_false, Sum.elim_inr, Sum.elim_inl]
  | cons y l ih =>
    intro i  n hd hn
    obtain ⟨hlt, hz, hd2, hw, hnn⟩ := lwl_cons hd h0
    have hy := lwl_get hd
    cases n with
    | zero => exact absurd hn (Nat.not_lt_zero _)
    | succ n =>
      have ih2 := ih (i + 1)  n hd2 (Nat.lt_of_succ_lt_succ hn)
      simp only [loopK, slices_Equal_Pair_b0, slices_Equal_Pair_w0, hlt, hz, decide_true, cond_true, and_self, if_true, hy, hw, hnn, Sum.elim_inl, Sum.elim_inr, ih2]

theorem slices_Equal_Pair_lz0 {u0} {u1} {u2} (h0 : u0.length < 9223372036854775807) {K : (q4T ⊕ q4T) → Option Res}  : loopK slices_Equal_Pair_b0 Fuel (u0, u1, u2, (u0.length : Int), (0 : Int)) K = slices_Equal_Pair_w0 u0 u1 u2 u0  0 (Sum.elim (fun z => K (.inl (u0, u1, z.1, (u0.length : Int), z.2))) (fun z => K (.inr (u0, u1, u2, (u0.length : Int), z)))) :=
  slices_Equal_Pair_lw0 h0 u0 0  Fuel rfl (lwl_fuel h0)

def slices_Equal_Pair_t (a0 : (List dRange)) (a1 : (List dRange)) (k : Bool → Option Res) : Option Res :=
  bif ((a0.length : Int) != (a1.length : Int)) then
    k false
  else
    slices_Equal_Pair_w0 a0 a1 false a0  0 (Sum.elim (fun z13 =>
      k z13.1) (fun _ =>
      k true))

theorem slices_Equal_Pair_r {a0 : (List dRange)} {a1 : (List dRange)} (h0 : a0.length < 9223372036854775807) {k : Bool → Option Res} : slices_Equal_Pair_k a0 a1 k = slices_Equal_Pair_t a0 a1 k := by
  rw [slices_Equal_Pair_e]
  simp only [slices_Equal_Pair_d, slices_Equal_Pair_t, (slices_Equal_Pair_lz0 h0), Sum.elim_inl, Sum.elim_inr]

def laws_eqVersionS_w0 (u0 : (List dVersion)) (u1 : (List dVersion)) (u2 : Bool) : List dVersion → Nat → (((Bool × Int) ⊕ Int) → Option Res) → Option Res
  | [], i, k =>
    k (.inr (i : Int))
  | y :: l, i, k =>
    if 0 ≤ (i : Int) ∧ (i : Int) < (u1.length : Int) then
      laws_eqVersion_k y (rd (Ty.zero tVersion) u1 (i : Int)) (fun y1 =>
        bif (!y1) then
          k (.inl (false, (i : Int)))
        else
          laws_eqVersionS_w0 u0 u1 u2 l (i + 1) k)
    else none

theorem laws_eqVersionS_lw0 {u0} {u1} {u2} (h0 : u0.length < 9223372036854775807) {K : (q13T ⊕ q13T) → Option Res} : ∀ (l : List dVersion) (i : Nat)  (n : Nat), u0.drop i = l → l.length < n → loopK laws_eqVersionS_b0 n (u0, u1, u2, (i : Int)) K = laws_eqVersionS_w0 u0 u1 u2 l  i (Sum.elim (fun z => K (.inl (u0, u1, z.1, z.2))) (fun z => K (.inr (u0, u1, u2, z)))) := by
  intro l
  induction l with
  | nil =>
    intro i  n hd hn
    have hge := lwl_nil hd
    cases n with
    | zero => exact absurd hn (Nat.not_lt_zero _)
    | succ n => simp only [loopK, laws_eqVersionS_b0, laws_eqVersionS_w0, hge, decide_false, cond_false, Sum.elim_inr, Sum.elim_inl]
  | cons y l ih =>
    intro i  n hd hn
    obtain ⟨hlt, hz, hd2, hw, hnn⟩ := lwl_cons hd h0
    have hy := lwl_get hd
    cases n with
    | zero => exact absurd hn (Nat.not_lt_zero _)
    | succ n =>
      have ih2 := ih (i + 1)  n hd2 (Nat.lt_of_succ_lt_succ hn)
      simp only [loopK, laws_eqVersionS_b0, laws_eqVersionS_w0, hlt, hz, decide_true, cond_true, and_self, if_true, hy, hw, hnn, Sum.elim_inl, Sum.elim_inr, ih2]

theorem laws_eqVersionS_lz0 {u0} {u1} {u2} (h0 : u0.length < 9223372036854775807) {K : (q13T ⊕ q13T) → Option Res}  : loopK laws_eqVersionS_b0 Fuel (u0, u1, u2, (0 : Int)) K = laws_eqVersionS_w0 u0 u1 u2 u0  0 (Sum.elim (fun z => K (.inl (u0, u1, z.1, z.2))) (fun z => K (.inr (u0, u1, u2, z)))) :=
  laws_eqVersionS_lw0 h0 u0 0  Fuel rfl (lwl_fuel h0)

def laws_eqVersionS_t (a0 : (List dVersion)) (a1 : (List dVersion)) (k : Bool → Option Res) : Option Res :=
  bif ((a0.length : Int) != (a1.length : Int)) then
    k false
  else
    laws_eqVersionS_w0 a0 a1 false a0  0 (Sum.elim (fun z13 =>
      k z13.1) (fun _ =>
      k true))

theorem laws_eqVersionS_r {a0 : (List dVersion)} {a1 : (List dVersion)} (h0 : a0.length < 9223372036854775807) {k : Bool → Option Res} : laws_eqVersionS_k a0 a1 k = laws_eqVersionS_t a0 a1 k := by
  rw [laws_eqVersionS_e]
  simp only [laws_eqVersionS_d, laws_eqVersionS_t, (laws_eqVersionS_lz0 h0), Sum.elim_inl, Sum.elim_inr]

def laws_eqRangeS_w0 (u0 : (List dRange)) (u1 : (List dRange)) (u2 : Bool) : List dRange → Nat → (((Bool × Int) ⊕ Int) → Option Res) → Option Res
  | [], i, k =>
    k (.inr (i : Int))
  | y :: l, i, k =>
    if 0 ≤ (i : Int) ∧ (i : Int) < (u1.length : Int) then
      laws_eqRange_k y (rd (Ty.zero tRange) u1 (i : Int)) (fun y1 =>
        bif (!y1) then
          k (.inl (false, (i : Int)))
        else
          laws_eqRangeS_w0 u0 u1 u2 l (i + 1) k)
    else none

theorem laws_eqRangeS_lw0 {u0} {u1} {u2} (h0 : u0.length < 9223372036854775807) {K : (q5T ⊕ q5T) → Option Res} : ∀ (l : List dRange) (i : Nat)  (n : Nat), u0.drop i = l → l.length < n → loopK laws_eqRangeS_b0 n (u0, u1, u2, (i : Int)) K = laws_eqRangeS_w0 u0 u1 u2 l  i (Sum.elim (fun z => K (.inl (u0, u1, z.1, z.2))) (fun z => K (.inr (u0, u1, u2, z)))) := by
  intro l
  induction l with
  | nil =>
    intro i  n hd hn
    have hge := lwl_nil hd
    cases n with
    | zero => exact absurd hn (Nat.not_lt_zero _)
    | succ n => simp only [loopK, laws_eqRangeS_b0, laws_eqRangeS_w0, hge, decide_false, cond_false, Sum.elim_inr, Sum.elim_inl]
  | cons y l ih =>
    intro i  n hd hn
    obtain ⟨hlt, hz, hd2, hw, hnn⟩ := lwl_cons hd h0
    have hy := lwl_get hd
    cases n with
    | zero => exact absurd hn (Nat.not_lt_zero _)
    | succ n =>
      have ih2 := ih (i + 1)  n hd2 (Nat.lt_of_succ_lt_succ hn)
      simp only [loopK, laws_eqRangeS_b0, laws_eqRangeS_w0, hlt, hz, decide_true, cond_true, and_self, if_true, hy, hw, hnn, Sum.elim_inl, Sum.elim_inr, ih2]

theorem laws_eqRangeS_lz0 {u0} {u1} {u2} (h0 : u0.length < 9223372036854775807) {K : (q5T ⊕ q5T) → Option Res}  : loopK laws_eqRangeS_b0 Fuel (u0, u1, u2, (0 : Int)) K = laws_eqRangeS_w0 u0 u1 u2 u0  0 (Sum.elim (fun z => K (.inl (u0, u1, z.1, z.2))) (fun z => K (.inr (u0, u1, u2, z)))) :=
  laws_eqRangeS_lw0 h0 u0 0  Fuel rfl (lwl_fuel h0)

def laws_eqRangeS_t (a0 : (List dRange)) (a1 : (List dRange)) (k : Bool → Option Res) : Option Res :=
  bif ((a0.length : Int) != (a1.length : Int)) then
    k false
  else
    laws_eqRangeS_w0 a0 a1 false a0  0 (Sum.elim (fun z13 =>
      k z13.1) (fun _ =>
      k true))

theorem laws_eqRangeS_r {a0 : (List dRange)} {a1 : (List dRange)} (h0 : a0.length < 9223372036854775807) {k : Bool → Option Res} : laws_eqRangeS_k a0 a1 k = laws_eqRangeS_t a0 a1 k := by
  rw [laws_eqRangeS_e]
  simp only [laws_eqRangeS_d, laws_eqRangeS_t, (laws_eqRangeS_lz0 h0), Sum.elim_inl, Sum.elim_inr]

def laws_eqWriteS_w0 (u0 : (List dWrite)) (u1 : (List dWrite)) (u2 : Bool) : List dWrite → Nat → (((Bool × Int) ⊕ Int) → Option Res) → Option Res
  | [], i, k =>
    k (.inr (i : Int))
  | y :: l, i, k =>
    if 0 ≤ (i : Int) ∧ (i : Int) < (u1.length : Int) then
      laws_eqWrite_k y (rd (Ty.zero tWrite) u1 (i : Int)) (fun y1 =>
        bif (!y1) then
          k (.inl (false, (i : Int)))
        else
          laws_eqWriteS_w0 u0 u1 u2 l (i + 1) k)
    else none

theorem laws_eqWriteS_lw0 {u0} {u1} {u2} (h0 : u0.length < 9223372036854775807) {K : (q25T ⊕ q25T) → Option Res} : ∀ (l : List dWrite) (i : Nat)  (n : Nat), u0.drop i = l → l.length < n → loopK laws_eqWriteS_b0 n (u0, u1, u2, (i : Int)) K = laws_eqWriteS_w0 u0 u1 u2 l  i (Sum.elim (fun z => K (.inl (u0, u1, z.1, z.2))) (fun z => K (.inr (u0, u1, u2, z)))) := by
  intro l
  induction l with
  | nil =>
    intro i  n hd hn
    have hge := lwl_nil hd
    cases n with
    | zero => exact absurd hn (Nat.not_lt_zero _)
    | succ n => simp only [loopK, laws_eqWriteS_b0, laws_eqWriteS_w0, hge, decide_false, cond_false, Sum.elim_inr, Sum.elim_inl]
  | cons y l ih =>
    intro i  n hd hn
    obtain ⟨hlt, hz, hd2, hw, hnn⟩ := lwl_cons hd h0
    have hy := lwl_get hd
    cases n with
    | zero => exact absurd hn (Nat.not_lt_zero _)
    | succ n =>
      have ih2 := ih (i + 1)  n hd2 (Nat.lt_of_succ_lt_succ hn)
      simp only [loopK, laws_eqWriteS_b0, laws_eqWriteS_w0, hlt, hz, decide_true, cond_true, and_self, if_true, hy, hw, hnn, Sum.elim_inl, Sum.elim_inr, ih2]

theorem laws_eqWriteS_lz0 {u0} {u1} {u2} (h0 : u0.length < 9223372036854775807) {K : (q25T ⊕ q25T) → Option Res}  : loopK laws_eqWriteS_b0 Fuel (u0, u1, u2, (0 : Int)) K = laws_eqWriteS_w0 u0 u1 u2 u0  0 (Sum.elim (fun z => K (.inl (u0, u1, z.1, z.2))) (fun z => K (.inr (u0, u1, u2, z)))) :=
  laws_eqWriteS_lw0 h0 u0 0  Fuel rfl (lwl_fuel h0)

def laws_eqWriteS_t (a0 : (List dWrite)) (a1 : (List dWrite)) (k : Bool → Option Res) : Option Res :=
  bif ((a0.length : Int) != (a1.length : Int)) then
    k false
  else
    laws_eqWriteS_w0 a0 a1 false a0  0 (Sum.elim (fun z13 =>
      k z13.1) (fun _ =>
      k true))

theorem laws_eqWriteS_r {a0 : (List dWrite)} {a1 : (List dWrite)} (h0 : a0.length < 9223372036854775807) {k : Bool → Option Res} : laws_eqWriteS_k a0 a1 k = laws_eqWriteS_t a0 a1 k := by
  rw [laws_eqWriteS_e]
  simp only [laws_eqWriteS_d, laws_eqWriteS_t, (laws_eqWriteS_lz0 h0), Sum.elim_inl, Sum.elim_inr]

def laws_eqTxnS_w0 (u0 : (List dTxn)) (u1 : (List dTxn)) (u2 : Bool) : List dTxn → Nat → (((Bool × Int) ⊕ Int) → Option Res) → Option Res
  | [], i, k =>
    k (.inr (i : Int))
  | y :: l, i, k =>
    if 0 ≤ (i : Int) ∧ (i : Int) < (u1.length : Int) then
      laws_eqTxn_k y (rd (Ty.zero tTxn) u1 (i : Int)) (fun y1 =>
        bif (!y1) then
          k (.inl (false, (i : Int)))
        else
          laws_eqTxnS_w0 u0 u1 u2 l (i + 1) k)
    else none

theorem laws_eqTxnS_lw0 {u0} {u1} {u2} (h0 : u0.length < 9223372036854775807) {K : (q9T ⊕ q9T) → Option Res} : ∀ (l : List dTxn) (i : Nat)  (n : Nat), u0.drop i = l → l.length < n → loopK laws_eqTxnS_b0 n (u0, u1, u2, (i : Int)) K = laws_eqTxnS_w0 u0 u1 u2 l  i (Sum.elim (fun z => K (.inl (u0, u1, z.1, z.2))) (fun z => K (.inr (u0, u1, u2, z)))) := by
  intro l
  induction l with
  | nil =>
    intro i  n hd hn
    have hge := lwl_nil hd
    cases n with
    | zero => exact absurd hn (Nat.not_lt_zero _)
    | succ n => simp only [loopK, laws_eqTxnS_b0, laws_eqTxnS_w0, hge, decide_false, cond_false, Sum.elim_inr, Sum.elim_inl]
  | cons y l ih =>
    intro i  n hd hn
    obtain ⟨hlt, hz, hd2, hw, hnn⟩ := lwl_cons hd h0
    have hy := lwl_get hd
    cases n with
    | zero => exact absurd hn (Nat.not_lt_zero _)
    | succ n =>
      have ih2 := ih (i + 1)  n hd2 (Nat.lt_of_succ_lt_succ hn)
      simp only [loopK, laws_eqTxnS_b0, laws_eqTxnS_w0, hlt, hz, decide_true, cond_true, and_self, if_true, hy, hw, hnn, Sum.elim_inl, Sum.elim_inr, ih2]

theorem laws_eqTxnS_lz0 {u0} {u1} {u2} (h0 : u0.length < 9223372036854775807) {K : (q9T ⊕ q9T) → Option Res}  : loopK laws_eqTxnS_b0 Fuel (u0, u1, u2, (0 : Int)) K = laws_eqTxnS_w0 u0 u1 u2 u0  0 (Sum.elim (fun z => K (.inl (u0, u1, z.1, z.2))) (fun z => K (.inr (u0, u1, u2, z)))) :=
  laws_eqTxnS_lw0 h0 u0 0  Fuel rfl (lwl_fuel h0)

def laws_eqTxnS_t (a0 : (List dTxn)) (a1 : (List dTxn)) (k : Bool → Option Res) : Option Res :=
  bif ((a0.length : Int) != (a1.length : Int)) then
    k false
  else
    laws_eqTxnS_w0 a0 a1 false a0  0 (Sum.elim (fun z13 =>
      k z13.1) (fun _ =>
      k true))

theorem laws_eqTxnS_r {a0 : (List dTxn)} {a1 : (List dTxn)} (h0 : a0.length < 9223372036854775807) {k : Bool → Option Res} : laws_eqTxnS_k a0 a1 k = laws_eqTxnS_t a0 a1 k := by
  rw [laws_eqTxnS_e]
  simp only [laws_eqTxnS_d, laws_eqTxnS_t, (laws_eqTxnS_lz0 h0), Sum.elim_inl, Sum.elim_inr]

end

end Go.VE
