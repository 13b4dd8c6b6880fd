/- Loops told as recursions over what is left; written by gen.py. -/

import Derived.Test.YtbedbcnmfoildaaOpenAtN

import Derived.Test.YtbedbcnmfoildaaP1

namespace Go.VE

noncomputable section

set_option linter.unusedVariables false
set_option linter.unusedSimpArgs false
set_option maxRecDepth 100000


def laws_szVersionS_w0 (u0 : (List dVersion)) (u2 : Int) : List dVersion → Int → Nat → (((Int × Int × Int) ⊕ (Int × Int)) → Option Res) → Option Res
  | [], s1, i, k =>
    k (.inr (s1, (i : Int)))
  | y :: l, s1, i, k =>
    laws_szVersion_k y s1 (fun y1 =>
      bif (decide (y1 < (0 : Int))) then
        k (.inl (y1, (-1 : Int), (i : Int)))
      else
        laws_szVersionS_w0 u0 u2 l y1 (i + 1) k)

theorem laws_szVersionS_lw0 {u0 : (List dVersion)} {u2 : Int} (h0 : u0.length < 9223372036854775807) {K : (((List dVersion) × Int × Int × Int) ⊕ ((List dVersion) × Int × Int × Int)) → Option Res} : ∀ (l : List dVersion) (i : Nat) (s1 : Int) (n : Nat), u0.drop i = l → l.length < n → loopK laws_szVersionS_b0 n (u0, s1, u2, (i : Int)) K = laws_szVersionS_w0 u0 u2 l s1 i (Sum.elim (fun z => K (.inl (u0, z.1, z.2.1, z.2.2))) (fun z => K (.inr (u0, z.1, u2, z.2)))) := by
  intro l
  induction l with
  | nil =>
    intro i s1 n hd hn
    have hge := lwl_nil hd
    cases n with
    | zero => exact absurd hn (Nat.not_lt_zero _)
    | succ n => simp only [loopK, laws_szVersionS_b0, laws_szVersionS_w0, hge, decide_false, cond_false, Sum.elim_inr, Sum.elim_inl]
  | cons y l ih =>
    intro i s1 n hd hn
    obtain ⟨hlt, hz, hd2, hw, hnn⟩ := lwl_cons hd h0
    have hy := lwl_get hd
    cases n with
    | zero => exact absurd hn (Nat.not_lt_zero _)
    | succ n =>
      have ih2 := fun (s1 : Int) => ih (i + 1) s1 n hd2 (Nat.lt_of_succ_lt_succ hn)
      simp only [loopK, laws_szVersionS_b0, laws_szVersionS_w0, hlt, hz, decide_true, cond_true, and_self, if_true, hy, hw, hnn, Sum.elim_inl, Sum.elim_inr, ih2]

theorem laws_szVersionS_lz0 {u0 : (List dVersion)} {u2 : Int} (h0 : u0.length < 9223372036854775807) {K : (((List dVersion) × Int × Int × Int) ⊕ ((List dVersion) × Int × Int × Int)) → Option Res} {s1 : Int} : loopK laws_szVersionS_b0 Fuel (u0, s1, u2, (0 : Int)) K = laws_szVersionS_w0 u0 u2 u0 s1 0 (Sum.elim (fun z => K (.inl (u0, z.1, z.2.1, z.2.2))) (fun z => K (.inr (u0, z.1, u2, z.2)))) :=
  laws_szVersionS_lw0 h0 u0 0 s1 Fuel rfl (lwl_fuel h0)

def laws_szVersionS_t (a0 : (List dVersion)) (a1 : Int) (k : Int → Option Res) : Option Res :=
  bif (decide ((IntKind.wrap .i64 (a1 - (a0.length : Int))) < (0 : Int))) then
    k (-1 : Int)
  else
    laws_szVersionS_w0 a0 (0 : Int) a0 (IntKind.wrap .i64 (a1 - (a0.length : Int))) 0 (Sum.elim (fun z8 =>
      k z8.2.1) (fun z9 =>
      k z9.1))

theorem laws_szVersionS_r {a0 : (List dVersion)} {a1 : Int} (h0 : a0.length < 9223372036854775807) {k : Int → Option Res} : laws_szVersionS_k a0 a1 k = laws_szVersionS_t a0 a1 k := by
  rw [laws_szVersionS_e]
  simp only [laws_szVersionS_d, laws_szVersionS_t, (laws_szVersionS_lz0 h0), Sum.elim_inl, Sum.elim_inr]

def laws_szRangeS_w0 (u0 : (List dRange)) (u2 : Int) : List dRange → Int → Nat → (((Int × Int × Int) ⊕ (Int × Int)) → Option Res) → Option Res
  | [], s1, i, k =>
    k (.inr (s1, (i : Int)))
  | y :: l, s1, i, k =>
    laws_szRange_k y s1 (fun y1 =>
      bif (decide (y1 < (0 : Int))) then
        k (.inl (y1, (-1 : Int), (i : Int)))
      else
        laws_szRangeS_w0 u0 u2 l y1 (i + 1) k)

theorem laws_szRangeS_lw0 {u0 : (List dRange)} {u2 : Int} (h0 : u0.length < 9223372036854775807) {K : (((List dRange) × Int × Int × Int) ⊕ ((List dRange) × Int × Int × Int)) → Option Res} : ∀ (l : List dRange) (i : Nat) (s1 : Int) (n : Nat), u0.drop i = l → l.length < n → loopK laws_szRangeS_b0 n (u0, s1, u2, (i : Int)) K = laws_szRangeS_w0 u0 u2 l s1 i (Sum.elim (fun z => K (.inl (u0, z.1, z.2.1, z.2.2))) (fun z => K (.inr (u0, z.1, u2, z.2)))) := by
  intro l
  induction l with
  | nil =>
    intro i s1 n hd hn
    have hge := lwl_nil hd
    cases n with
    | zero => exact absurd hn (Nat.not_lt_zero _)
    | succ n => simp only [loopK, laws_szRangeS_b0, laws_szRangeS_w0, hge, decide_false, cond_false, Sum.elim_inr, Sum.elim_inl]
  | cons y l ih =>
    intro i s1 n hd hn
    obtain ⟨hlt, hz, hd2, hw, hnn⟩ := lwl_cons hd h0
    have hy := lwl_get hd
    cases n with
    | zero => exact absurd hn (Nat.not_lt_zero _)
    | succ n =>
      have ih2 := fun (s1 : Int) => ih (i + 1) s1 n hd2 (Nat.lt_of_succ_lt_succ hn)
      simp only [loopK, laws_szRangeS_b0, laws_szRangeS_w0, hlt, hz, decide_true, cond_true, and_self, if_true, hy, hw, hnn, Sum.elim_inl, Sum.elim_inr, ih2]

theorem laws_szRangeS_lz0 {u0 : (List dRange)} {u2 : Int} (h0 : u0.length < 9223372036854775807) {K : (((List dRange) × Int × Int × Int) ⊕ ((List dRange) × Int × Int × Int)) → Option Res} {s1 : Int} : loopK laws_szRangeS_b0 Fuel (u0, s1, u2, (0 : Int)) K = laws_szRangeS_w0 u0 u2 u0 s1 0 (Sum.elim (fun z => K (.inl (u0, z.1, z.2.1, z.2.2))) (fun z => K (.inr (u0, z.1, u2, z.2)))) :=
  laws_szRangeS_lw0 h0 u0 0 s1 Fuel rfl (lwl_fuel h0)

def laws_szRangeS_t (a0 : (List dRange)) (a1 : Int) (k : Int → Option Res) : Option Res :=
  bif (decide ((IntKind.wrap .i64 (a1 - (a0.length : Int))) < (0 : Int))) then
    k (-1 : Int)
  else
    laws_szRangeS_w0 a0 (0 : Int) a0 (IntKind.wrap .i64 (a1 - (a0.length : Int))) 0 (Sum.elim (fun z8 =>
      k z8.2.1) (fun z9 =>
      k z9.1))

theorem laws_szRangeS_r {a0 : (List dRange)} {a1 : Int} (h0 : a0.length < 9223372036854775807) {k : Int → Option Res} : laws_szRangeS_k a0 a1 k = laws_szRangeS_t a0 a1 k := by
  rw [laws_szRangeS_e]
  simp only [laws_szRangeS_d, laws_szRangeS_t, (laws_szRangeS_lz0 h0), Sum.elim_inl, Sum.elim_inr]

def laws_szWriteS_w0 (u0 : (List dWrite)) (u2 : Int) : List dWrite → Int → Nat → (((Int × Int × Int) ⊕ (Int × Int)) → Option Res) → Option Res
  | [], s1, i, k =>
    k (.inr (s1, (i : Int)))
  | y :: l, s1, i, k =>
    laws_szWrite_k y s1 (fun y1 =>
      bif (decide (y1 < (0 : Int))) then
        k (.inl (y1, (-1 : Int), (i : Int)))
      else
        laws_szWriteS_w0 u0 u2 l y1 (i + 1) k)

theorem laws_szWriteS_lw0 {u0 : (List dWrite)} {u2 : Int} (h0 : u0.length < 9223372036854775807) {K : (((List dWrite) × Int × Int × Int) ⊕ ((List dWrite) × Int × Int × Int)) → Option Res} : ∀ (l : List dWrite) (i : Nat) (s1 : Int) (n : Nat), u0.drop i = l → l.length < n → loopK laws_szWriteS_b0 n (u0, s1, u2, (i : Int)) K = laws_szWriteS_w0 u0 u2 l s1 i (Sum.elim (fun z => K (.inl (u0, z.1, z.2.1, z.2.2))) (fun z => K (.inr (u0, z.1, u2, z.2)))) := by
  intro l
  induction l with
  | nil =>
    intro i s1 n hd hn
    have hge := lwl_nil hd
    cases n with
    | zero => exact absurd hn (Nat.not_lt_zero _)
    | succ n => simp only [loopK, laws_szWriteS_b0, laws_szWriteS_w0, hge, decide_false, cond_false, Sum.elim_inr, Sum.elim_inl]
  | cons y l ih =>
    intro i s1 n hd hn
    obtain ⟨hlt, hz, hd2, hw, hnn⟩ := lwl_cons hd h0
    have hy := lwl_get hd
    cases n with
    | zero => exact absurd hn (Nat.not_lt_zero _)
    | succ n =>
      have ih2 := fun (s1 : Int) => ih (i + 1) s1 n hd2 (Nat.lt_of_succ_lt_succ hn)
      simp only [loopK, laws_szWriteS_b0, laws_szWriteS_w0, hlt, hz, decide_true, cond_true, and_self, if_true, hy, hw, hnn, Sum.elim_inl, Sum.elim_inr, ih2]

theorem laws_szWriteS_lz0 {u0 : (List dWrite)} {u2 : Int} (h0 : u0.length < 9223372036854775807) {K : (((List dWrite) × Int × Int × Int) ⊕ ((List dWrite) × Int × Int × Int)) → Option Res} {s1 : Int} : loopK laws_szWriteS_b0 Fuel (u0, s1, u2, (0 : Int)) K = laws_szWriteS_w0 u0 u2 u0 s1 0 (Sum.elim (fun z => K (.inl (u0, z.1, z.2.1, z.2.2))) (fun z => K (.inr (u0, z.1, u2, z.2)))) :=
  laws_szWriteS_lw0 h0 u0 0 s1 Fuel rfl (lwl_fuel h0)

def laws_szWriteS_t (a0 : (List dWrite)) (a1 : Int) (k : Int → Option Res) : Option Res :=
  bif (decide ((IntKind.wrap .i64 (a1 - (a0.length : Int))) < (0 : Int))) then
    k (-1 : Int)
  else
    laws_szWriteS_w0 a0 (0 : Int) a0 (IntKind.wrap .i64 (a1 - (a0.length : Int))) 0 (Sum.elim (fun z8 =>
      k z8.2.1) (fun z9 =>
      k z9.1))

theorem laws_szWriteS_r {a0 : (List dWrite)} {a1 : Int} (h0 : a0.length < 9223372036854775807) {k : Int → Option Res} : laws_szWriteS_k a0 a1 k = laws_szWriteS_t a0 a1 k := by
  rw [laws_szWriteS_e]
  simp only [laws_szWriteS_d, laws_szWriteS_t, (laws_szWriteS_lz0 h0), Sum.elim_inl, Sum.elim_inr]

def laws_szTxnS_w0 (u0 : (List dTxn)) (u2 : Int) : List dTxn → Int → Nat → (((Int × Int × Int) ⊕ (Int × Int)) → Option Res) → Option Res
  | [], s1, i, k =>
    k (.inr (s1, (i : Int)))
  | y :: l, s1, i, k =>
    laws_szTxn_k y s1 (fun y1 =>
      bif (decide (y1 < (0 : Int))) then
        k (.inl (y1, (-1 : Int), (i : Int)))
      else
        laws_szTxnS_w0 u0 u2 l y1 (i + 1) k)

theorem laws_szTxnS_lw0 {u0 : (List dTxn)} {u2 : Int} (h0 : u0.length < 9223372036854775807) {K : (((List dTxn) × Int × Int × Int) ⊕ ((List dTxn) × Int × Int × Int)) → Option Res} : ∀ (l : List dTxn) (i : Nat) (s1 : Int) (n : Nat), u0.drop i = l → l.length < n → loopK laws_szTxnS_b0 n (u0, s1, u2, (i : Int)) K = laws_szTxnS_w0 u0 u2 l s1 i (Sum.elim (fun z => K (.inl (u0, z.1, z.2.1, z.2.2))) (fun z => K (.inr (u0, z.1, u2, z.2)))) := by
  intro l
  induction l with
  | nil =>
    intro i s1 n hd hn
    have hge := lwl_nil hd
    cases n with
    | zero => exact absurd hn (Nat.not_lt_zero _)
    | succ n => simp only [loopK, laws_szTxnS_b0, laws_szTxnS_w0, hge, decide_false, cond_false, Sum.elim_inr, Sum.elim_inl]
  | cons y l ih =>
    intro i s1 n hd hn
    obtain ⟨hlt, hz, hd2, hw, hnn⟩ := lwl_cons hd h0
    have hy := lwl_get hd
    cases n with
    | zero => exact absurd hn (Nat.not_lt_zero _)
    | succ n =>
      have ih2 := fun (s1 : Int) => ih (i + 1) s1 n hd2 (Nat.lt_of_succ_lt_succ hn)
      simp only [loopK, laws_szTxnS_b0, laws_szTxnS_w0, hlt, hz, decide_true, cond_true, and_self, if_true, hy, hw, hnn, Sum.elim_inl, Sum.elim_inr, ih2]

theorem laws_szTxnS_lz0 {u0 : (List dTxn)} {u2 : Int} (h0 : u0.length < 9223372036854775807) {K : (((List dTxn) × Int × Int × Int) ⊕ ((List dTxn) × Int × Int × Int)) → Option Res} {s1 : Int} : loopK laws_szTxnS_b0 Fuel (u0, s1, u2, (0 : Int)) K = laws_szTxnS_w0 u0 u2 u0 s1 0 (Sum.elim (fun z => K (.inl (u0, z.1, z.2.1, z.2.2))) (fun z => K (.inr (u0, z.1, u2, z.2)))) :=
  laws_szTxnS_lw0 h0 u0 0 s1 Fuel rfl (lwl_fuel h0)

def laws_szTxnS_t (a0 : (List dTxn)) (a1 : Int) (k : Int → Option Res) : Option Res :=
  bif (decide ((IntKind.wrap .i64 (a1 - (a0.length : Int))) < (0 : Int))) then
    k (-1 : Int)
  else
    laws_szTxnS_w0 a0 (0 : Int) a0 (IntKind.wrap .i64 (a1 - (a0.length : Int))) 0 (Sum.elim (fun z8 =>
      k z8.2.1) (fun z9 =>
      k z9.1))

theorem laws_szTxnS_r {a0 : (List dTxn)} {a1 : Int} (h0 : a0.length < 9223372036854775807) {k : Int → Option Res} : laws_szTxnS_k a0 a1 k = laws_szTxnS_t a0 a1 k := by
  rw [laws_szTxnS_e]
  simp only [laws_szTxnS_d, laws_szTxnS_t, (laws_szTxnS_lz0 h0), Sum.elim_inl, Sum.elim_inr]

def laws_toVersionS_w0 (u0 : (List dVersion)) : List dVersion → (List dVersion) → Nat → ((Int × (List dVersion)) → Option Res) → Option Res
  | [], s2, i, k =>
    k ((i : Int), s2)
  | y :: l, s2, i, k =>
    laws_toVersion_k y (fun y1 =>
      if 0 ≤ (i : Int) ∧ (i : Int) < (s2.length : Int) then
        laws_toVersionS_w0 u0 l (s2.set (i : Int).toNat y1) (i + 1) k
      else none)

theorem laws_toVersionS_lw0 {u0 : (List dVersion)} (h0 : u0.length < 9223372036854775807) {K : ((List dVersion) × Int × (List dVersion)) → Option Res} : ∀ (l : List dVersion) (i : Nat) (s2 : (List dVersion)) (n : Nat), u0.drop i = l → l.length < n → loopK laws_toVersionS_b0 n (u0, (i : Int), s2) K = laws_toVersionS_w0 u0 l s2 i (fun z => K (u0, z.1, z.2)) := by
  intro l
  induction l with
  | nil =>
    intro i s2 n hd hn
    have hge := lwl_nil hd
    cases n with
    | zero => exact absurd hn (Nat.not_lt_zero _)
    | succ n => simp only [loopK, laws_toVersionS_b0, laws_toVersionS_w0, hge, decide_false, cond_false, Sum.elim_inr, Sum.elim_inl]
  | cons y l ih =>
    intro i s2 n hd hn
    obtain ⟨hlt, hz, hd2, hw, hnn⟩ := lwl_cons hd h0
    have hy := lwl_get hd
    cases n with
    | zero => exact absurd hn (Nat.not_lt_zero _)
    | succ n =>
      have ih2 := fun (s2 : (List dVersion)) => ih (i + 1) s2 n hd2 (Nat.lt_of_succ_lt_succ hn)
      simp only [loopK, laws_toVersionS_b0, laws_toVersionS_w0, hlt, hz, decide_true, cond_true, and_self, if_true, hy, hw, hnn, Sum.elim_inl, Sum.elim_inr, ih2]

theorem laws_toVersionS_lz0 {u0 : (List dVersion)} (h0 : u0.length < 9223372036854775807) {K : ((List dVersion) × Int × (List dVersion)) → Option Res} {s2 : (List dVersion)} : loopK laws_toVersionS_b0 Fuel (u0, (0 : Int), s2) K = laws_toVersionS_w0 u0 u0 s2 0 (fun z => K (u0, z.1, z.2)) :=
  laws_toVersionS_lw0 h0 u0 0 s2 Fuel rfl (lwl_fuel h0)

def laws_toVersionS_t (a0 : (List dVersion)) (k : (List dVersion) → Option Res) : Option Res :=
  if 0 ≤ (a0.length : Int) ∧ (a0.length : Int) ≤ (a0.length : Int) ∧ (a0.length : Int) ≤ (VE.maxLen : Int) then
    laws_toVersionS_w0 a0 a0 (List.replicate (a0.length : Int).toNat (Ty.zero tVersion)) 0 (fun z8 =>
      k z8.2)
  else none

theorem laws_toVersionS_r {a0 : (List dVersion)} (h0 : a0.length < 9223372036854775807) {k : (List dVersion) → Option Res} : laws_toVersionS_k a0 k = laws_toVersionS_t a0 k := by
  rw [laws_toVersionS_e]
  simp only [laws_toVersionS_d, laws_toVersionS_t, (laws_toVersionS_lz0 h0), Sum.elim_inl, Sum.elim_inr]

def laws_toRangeS_w0 (u0 : (List dRange)) : List dRange → (List dRange) → Nat → ((Int × (List dRange)) → Option Res) → Option Res
  | [], s2, i, k =>
    k ((i : Int), s2)
  | y :: l, s2, i, k =>
    laws_toRange_k y (fun y1 =>
      if 0 ≤ (i : Int) ∧ (i : Int) < (s2.length : Int) then
        laws_toRangeS_w0 u0 l (s2.set (i : Int).toNat y1) (i + 1) k
      else none)

theorem laws_toRangeS_lw0 {u0 : (List dRange)} (h0 : u0.length < 9223372036854775807) {K : ((List dRange) × Int × (List dRange)) → Option Res} : ∀ (l : List dRange) (i : Nat) (s2 : (List dRange)) (n : Nat), u0.drop i = l → l.length < n → loopK laws_toRangeS_b0 n (u0, (i : Int), s2) K = laws_toRangeS_w0 u0 l s2 i (fun z => K (u0, z.1, z.2)) := by
  intro l
  induction l with
  | nil =>
    intro i s2 n hd hn
    have hge := lwl_nil hd
    cases n with
    | zero => exact absurd hn (Nat.not_lt_zero _)
    | succ n => simp only [loopK, laws_toRangeS_b0, laws_toRangeS_w0, hge, decide_false, cond_false, Sum.elim_inr, Sum.elim_inl]
  | cons y l ih =>
    intro i s2 n hd hn
    obtain ⟨hlt, hz, hd2, hw, hnn⟩ := lwl_cons hd h0
    have hy := lwl_get hd
    cases n with
    | zero => exact absurd hn (Nat.not_lt_zero _)
    | succ n =>
      have ih2 := fun (s2 : (List dRange)) => ih (i + 1) s2 n hd2 (Nat.lt_of_succ_lt_succ hn)
      simp only [loopK, laws_toRangeS_b0, laws_toRangeS_w0, hlt, hz, decide_true, cond_true, and_self, if_true, hy, hw, hnn, Sum.elim_inl, Sum.elim_inr, ih2]

theorem laws_toRangeS_lz0 {u0 : (List dRange)} (h0 : u0.length < 9223372036854775807) {K : ((List dRange) × Int × (List dRange)) → Option Res} {s2 : (List dRange)} : loopK laws_toRangeS_b0 Fuel (u0, (0 : Int), s2) K = laws_toRangeS_w0 u0 u0 s2 0 (fun z => K (u0, z.1, z.2)) :=
  laws_toRangeS_lw0 h0 u0 0 s2 Fuel rfl (lwl_fuel h0)

def laws_toRangeS_t (a0 : (List dRange)) (k : (List dRange) → Option Res) : Option Res :=
  if 0 ≤ (a0.length : Int) ∧ (a0.length : Int) ≤ (a0.length : Int) ∧ (a0.length : Int) ≤ (VE.maxLen : Int) then
    laws_toRangeS_w0 a0 a0 (List.replicate (a0.length : Int).toNat (Ty.zero tRange)) 0 (fun z8 =>
      k z8.2)
  else none

theorem laws_toRangeS_r {a0 : (List dRange)} (h0 : a0.length < 9223372036854775807) {k : (List dRange) → Option Res} : laws_toRangeS_k a0 k = laws_toRangeS_t a0 k := by
  rw [laws_toRangeS_e]
  simp only [laws_toRangeS_d, laws_toRangeS_t, (laws_toRangeS_lz0 h0), Sum.elim_inl, Sum.elim_inr]

def laws_toWriteS_w0 (u0 : (List dWrite)) : List dWrite → (List dWrite) → Nat → ((Int × (List dWrite)) → Option Res) → Option Res
  | [], s2, i, k =>
    k ((i : Int), s2)
  | y :: l, s2, i, k =>
    laws_toWrite_k y (fun y1 =>
      if 0 ≤ (i : Int) ∧ (i : Int) < (s2.length : Int) then
        laws_toWriteS_w0 u0 l (s2.set (i : Int).toNat y1) (i + 1) k
      else none)

theorem laws_toWriteS_lw0 {u0 : (List dWrite)} (h0 : u0.length < 9223372036854775807) {K : ((List dWrite) × Int × (List dWrite)) → Option Res} : ∀ (l : List dWrite) (i : Nat) (s2 : (List dWrite)) (n : Nat), u0.drop i = l → l.length < n → loopK laws_toWriteS_b0 n (u0, (i : Int), s2) K = laws_toWriteS_w0 u0 l s2 i (fun z => K (u0, z.1, z.2)) := by
  intro l
  induction l with
  | nil =>
    intro i s2 n hd hn
    have hge := lwl_nil hd
    cases n with
    | zero => exact absurd hn (Nat.not_lt_zero _)
    | succ n => simp only [loopK, laws_toWriteS_b0, laws_toWriteS_w0, hge, decide_false, cond_false, Sum.elim_inr, Sum.elim_inl]
  | cons y l ih =>
    intro i s2 n hd hn
    obtain ⟨hlt, hz, hd2, hw, hnn⟩ := lwl_cons hd h0
    have hy := lwl_get hd
    cases n with
    | zero => exact absurd hn (Nat.not_lt_zero _)
    | succ n =>
      have ih2 := fun (s2 : (List dWrite)) => ih (i + 1) s2 n hd2 (Nat.lt_of_succ_lt_succ hn)
      simp only [loopK, laws_toWriteS_b0, laws_toWriteS_w0, hlt, hz, decide_true, cond_true, and_self, if_true, hy, hw, hnn, Sum.elim_inl, Sum.elim_inr, ih2]

theorem laws_toWriteS_lz0 {u0 : (List dWrite)} (h0 : u0.length < 9223372036854775807) {K : ((List dWrite) × Int × (List dWrite)) → Option Res} {s2 : (List dWrite)} : loopK laws_toWriteS_b0 Fuel (u0, (0 : Int), s2) K = laws_toWriteS_w0 u0 u0 s2 0 (fun z => K (u0, z.1, z.2)) :=
  laws_toWriteS_lw0 h0 u0 0 s2 Fuel rfl (lwl_fuel h0)

def laws_toWriteS_t (a0 : (List dWrite)) (k : (List dWrite) → Option Res) : Option Res :=
  if 0 ≤ (a0.length : Int) ∧ (a0.length : Int) ≤ (a0.length : Int) ∧ (a0.length : Int) ≤ (VE.maxLen : Int) then
    laws_toWriteS_w0 a0 a0 (List.replicate (a0.length : Int).toNat (Ty.zero tWrite)) 0 (fun z8 =>
      k z8.2)
  else none

theorem laws_toWriteS_r {a0 : (List dWrite)} (h0 : a0.length < 9223372036854775807) {k : (List dWrite) → Option Res} : laws_toWriteS_k a0 k = laws_toWriteS_t a0 k := by
  rw [laws_toWriteS_e]
  simp only [laws_toWriteS_d, laws_toWriteS_t, (laws_toWriteS_lz0 h0), Sum.elim_inl, Sum.elim_inr]

def laws_toTxnS_w0 (u0 : (List dTxn)) : List dTxn → (List dTxn) → Nat → ((Int × (List dTxn)) → Option Res) → Option Res
  | [], s2, i, k =>
    k ((i : Int), s2)
  | y :: l, s2, i, k =>
    laws_toTxn_k y (fun y1 =>
      if 0 ≤ (i : Int) ∧ (i : Int) < (s2.length : Int) then
        laws_toTxnS_w0 u0 l (s2.set (i : Int).toNat (y1.1, (y1.2.1, (y1.2.2.1, (y1.2.2.2.1, (y1.2.2.2.2.2.2.1, (y1.2.2.2.2.2.2.2, (y1.2.2.2.2.1, y1.2.2.2.2.2.1)))))))) (i + 1) k
      else none)

theorem laws_toTxnS_lw0 {u0 : (List dTxn)} (h0 : u0.length < 9223372036854775807) {K : ((List dTxn) × Int × (List dTxn)) → Option Res} : ∀ (l : List dTxn) (i : Nat) (s2 : (List dTxn)) (n : Nat), u0.drop i = l → l.length < n → loopK laws_toTxnS_b0 n (u0, (i : Int), s2) K = laws_toTxnS_w0 u0 l s2 i (fun z => K (u0, z.1, z.2)) := by
  intro l
  induction l with
  | nil =>
    intro i s2 n hd hn
    have hge := lwl_nil hd
    cases n with
    | zero => exact absurd hn (Nat.not_lt_zero _)
    | succ n => simp only [loopK, laws_toTxnS_b0, laws_toTxnS_w0, hge, decide_false, cond_false, Sum.elim_inr, Sum.elim_inl]
  | cons y l ih =>
    intro i s2 n hd hn
    obtain ⟨hlt, hz, hd2, hw, hnn⟩ := lwl_cons hd h0
    have hy := lwl_get hd
    cases n with
    | zero => exact absurd hn (Nat.not_lt_zero _)
    | succ n =>
      have ih2 := fun (s2 : (List dTxn)) => ih (i + 1) s2 n hd2 (Nat.lt_of_succ_lt_succ hn)
      simp only [loopK, laws_toTxnS_b0, laws_toTxnS_w0, hlt, hz, decide_true, cond_true, and_self, if_true, hy, hw, hnn, Sum.elim_inl, Sum.elim_inr, ih2]

theorem laws_toTxnS_lz0 {u0 : (List dTxn)} (h0 : u0.length < 9223372036854775807) {K : ((List dTxn) × Int × (List dTxn)) → Option Res} {s2 : (List dTxn)} : loopK laws_toTxnS_b0 Fuel (u0, (0 : Int), s2) K = laws_toTxnS_w0 u0 u0 s2 0 (fun z => K (u0, z.1, z.2)) :=
  laws_toTxnS_lw0 h0 u0 0 s2 Fuel rfl (lwl_fuel h0)

def laws_toTxnS_t (a0 : (List dTxn)) (k : (List dTxn) → Option Res) : Option Res :=
  if 0 ≤ (a0.length : Int) ∧ (a0.length : Int) ≤ (a0.length : Int) ∧ (a0.length : Int) ≤ (VE.maxLen : Int) then
    laws_toTxnS_w0 a0 a0 (List.replicate (a0.length : Int).toNat (Ty.zero tTxn)) 0 (fun z8 =>
      k z8.2)
  else none

theorem laws_toTxnS_r {a0 : (List dTxn)} (h0 : a0.length < 9223372036854775807) {k : (List dTxn) → Option Res} : laws_toTxnS_k a0 k = laws_toTxnS_t a0 k := by
  rw [laws_toTxnS_e]
  simp only [laws_toTxnS_d, laws_toTxnS_t, (laws_toTxnS_lz0 h0), Sum.elim_inl, Sum.elim_inr]

def spec_OpenAt_w0 (u0 : Int) (u1 : Int) (u3 : (List dVersion)) (u4 : (List dTxn)) (u5 : (List dTxn)) (u6 : Int) (u7 : Int) (u8 : (List dTxn)) : List dTxn → Nat → (((Int × Int) ⊕ Int) → Option Res) → Option Res
  | [], i, k =>
    k (.inr (i : Int))
  | y :: l, i, k =>
    bif (y.1 == u0) then
      k (.inl ((i : Int), (i : Int)))
    else
      spec_OpenAt_w0 u0 u1 u3 u4 u5 u6 u7 u8 l (i + 1) k

theorem spec_OpenAt_lw0 {u0 : Int} {u1 : Int} {u3 : (List dVersion)} {u4 : (List dTxn)} {u5 : (List dTxn)} {u6 : Int} {u7 : Int} {u8 : (List dTxn)} (h0 : u8.length < 9223372036854775807) {K : ((Int × Int × Int × (List dVersion) × (List dTxn) × (List dTxn) × Int × Int × (List dTxn)) ⊕ (Int × Int × Int × (List dVersion) × (List dTxn) × (List dTxn) × Int × Int × (List dTxn))) → Option Res} : ∀ (l : List dTxn) (i : Nat)  (n : Nat), u8.drop i = l → l.length < n → loopK spec_OpenAt_b0 n (u0, u1, (i : Int), u3, u4, u5, u6, u7, u8) K = spec_OpenAt_w0 u0 u1 u3 u4 u5 u6 u7 u8 l  i (Sum.elim (fun z => K (.inl (u0, z.1, z.2, u3, u4, u5, u6, u7, u8))) (fun z => K (.inr (u0, u1, z, u3, u4, u5, u6, u7, u8)))) := by
  intro l
  induction l with
  | nil =>
    intro i  n hd hn
    have hge := lwl_nil hd
    cases n with
    | zero => exact absurd hn (Nat.not_lt_zero _)
    | succ n => simp only [loopK, spec_OpenAt_b0, spec_OpenAt_w0, hge, decide_false, cond_false, Sum.elim_inr, Sum.elim_inl]
  | cons y l ih =>
    intro i  n hd hn
    obtain ⟨hlt, hz, hd2, hw, hnn⟩ := lwl_cons hd h0
    have hy := lwl_get hd
    cases n with
    | zero => exact absurd hn (Nat.not_lt_zero _)
    | succ n =>
      have ih2 := ih (i + 1)  n hd2 (Nat.lt_of_succ_lt_succ hn)
      simp only [loopK, spec_OpenAt_b0, spec_OpenAt_w0, hlt, hz, decide_true, cond_true, and_self, if_true, hy, hw, hnn, Sum.elim_inl, Sum.elim_inr, ih2]

theorem spec_OpenAt_lz0 {u0 : Int} {u1 : Int} {u3 : (List dVersion)} {u4 : (List dTxn)} {u5 : (List dTxn)} {u6 : Int} {u7 : Int} {u8 : (List dTxn)} (h0 : u8.length < 9223372036854775807) {K : ((Int × Int × Int × (List dVersion) × (List dTxn) × (List dTxn) × Int × Int × (List dTxn)) ⊕ (Int × Int × Int × (List dVersion) × (List dTxn) × (List dTxn) × Int × Int × (List dTxn))) → Option Res}  : loopK spec_OpenAt_b0 Fuel (u0, u1, (0 : Int), u3, u4, u5, u6, u7, u8) K = spec_OpenAt_w0 u0 u1 u3 u4 u5 u6 u7 u8 u8  0 (Sum.elim (fun z => K (.inl (u0, z.1, z.2, u3, u4, u5, u6, u7, u8))) (fun z => K (.inr (u0, u1, z, u3, u4, u5, u6, u7, u8)))) :=
  spec_OpenAt_lw0 h0 u8 0  Fuel rfl (lwl_fuel h0)

def spec_OpenAt_t (a0 : dEngine) (a1 : Int) (k : Int → Option Res) : Option Res :=
  spec_OpenAt_w0 a1 (0 : Int) a0.1.1 a0.1.2.1 a0.1.2.2.1 a0.1.2.2.2.1 a0.1.2.2.2.2 a0.2 a0.2  0 (Sum.elim (fun z8 =>
    k z8.1) (fun _ =>
    k (-1 : Int)))

theorem spec_OpenAt_r {a0 : dEngine} {a1 : Int} (h0 : a0.2.length < 9223372036854775807) {k : Int → Option Res} : spec_OpenAt_k a0 a1 k = spec_OpenAt_t a0 a1 k := by
  rw [spec_OpenAt_e]
  simp only [spec_OpenAt_d, spec_OpenAt_t, (spec_OpenAt_lz0 h0), Sum.elim_inl, Sum.elim_inr]

def slices_IndexFunc_Txn_OpenAt_1_w0 (u0 : (List dTxn)) (u1 : Int) : List dTxn → Int → Nat → (((Int × Int × Int) ⊕ (Int × Int)) → Option Res) → Option Res
  | [], s4, i, k =>
    k (.inr ((i : Int), s4))
  | y :: l, s4, i, k =>
    impl_OpenAt_1_k y s4 (fun y1 =>
      bif y1.1 then
        k (.inl ((i : Int), (i : Int), y1.2))
      else
        slices_IndexFunc_Txn_OpenAt_1_w0 u0 u1 l y1.2 (i + 1) k)

theorem slices_IndexFunc_Txn_OpenAt_1_lw0 {u0 : (List dTxn)} {u1 : Int} (h0 : u0.length < 9223372036854775807) {K : (((List dTxn) × Int × Int × Int × Int) ⊕ ((List dTxn) × Int × Int × Int × Int)) → Option Res} : ∀ (l : List dTxn) (i : Nat) (s4 : Int) (n : Nat), u0.drop i = l → l.length < n → loopK slices_IndexFunc_Txn_OpenAt_1_b0 n (u0, u1, (u0.length : Int), (i : Int), s4) K = slices_IndexFunc_Txn_OpenAt_1_w0 u0 u1 l s4 i (Sum.elim (fun z => K (.inl (u0, z.1, (u0.length : Int), z.2.1, z.2.2))) (fun z => K (.inr (u0, u1, (u0.length : Int), z.1, z.2)))) := by
  intro l
  induction l with
  | nil =>
    intro i s4 n hd hn
    have hge := lwl_nil hd
    cases n with
    | zero => exact absurd hn (Nat.not_lt_zero _)
    | succ n => simp only [loopK, slices_IndexFunc_Txn_OpenAt_1_b0, slices_IndexFunc_Txn_OpenAt_1_w0, hge, decide_false, cond_false, Sum.elim_inr, Sum.elim_inl]
  | cons y l ih =>
    intro i s4 n hd hn
    obtain ⟨hlt, hz, hd2, hw, hnn⟩ := lwl_cons hd h0
    have hy := lwl_get hd
    cases n with
    | zero => exact absurd hn (Nat.not_lt_zero _)
    | succ n =>
      have ih2 := fun (s4 : Int) => ih (i + 1) s4 n hd2 (Nat.lt_of_succ_lt_succ hn)
      simp only [loopK, slices_IndexFunc_Txn_OpenAt_1_b0, slices_IndexFunc_Txn_OpenAt_1_w0, hlt, hz, decide_true, cond_true, and_self, if_true, hy, hw, hnn, Sum.elim_inl, Sum.elim_inr, ih2]

theorem slices_IndexFunc_Txn_OpenAt_1_lz0 {u0 : (List dTxn)} {u1 : Int} (h0 : u0.length < 9223372036854775807) {K : (((List dTxn) × Int × Int × Int × Int) ⊕ ((List dTxn) × Int × Int × Int × Int)) → Option Res} {s4 : Int} : loopK slices_IndexFunc_Txn_OpenAt_1_b0 Fuel (u0, u1, (u0.length : Int), (0 : Int), s4) K = slices_IndexFunc_Txn_OpenAt_1_w0 u0 u1 u0 s4 0 (Sum.elim (fun z => K (.inl (u0, z.1, (u0.length : Int), z.2.1, z.2.2))) (fun z => K (.inr (u0, u1, (u0.length : Int), z.1, z.2)))) :=
  slices_IndexFunc_Txn_OpenAt_1_lw0 h0 u0 0 s4 Fuel rfl (lwl_fuel h0)

def slices_IndexFunc_Txn_OpenAt_1_t (a0 : (List dTxn)) (a1 : Int) (k : (Int × Int) → Option Res) : Option Res :=
  slices_IndexFunc_Txn_OpenAt_1_w0 a0 (0 : Int) a0 a1 0 (Sum.elim (fun z8 =>
    k (z8.1, z8.2.2)) (fun z9 =>
    k ((-1 : Int), z9.2)))

theorem slices_IndexFunc_Txn_OpenAt_1_r {a0 : (List dTxn)} {a1 : Int} (h0 : a0.length < 9223372036854775807) {k : (Int × Int) → Option Res} : slices_IndexFunc_Txn_OpenAt_1_k a0 a1 k = slices_IndexFunc_Txn_OpenAt_1_t a0 a1 k := by
  rw [slices_IndexFunc_Txn_OpenAt_1_e]
  simp only [slices_IndexFunc_Txn_OpenAt_1_d, slices_IndexFunc_Txn_OpenAt_1_t, (slices_IndexFunc_Txn_OpenAt_1_lz0 h0), Sum.elim_inl, Sum.elim_inr]

def laws_eqVersionS_w0 (u0 : (List dVersion)) (u1 : (List dVersion)) (u2 : Bool) : List dVersion → Nat → (((Bool × Int) ⊕ Int) → Option Res) → Option Res
  | [], i, k =>
    k (.inr (i : Int))
  | y :: l, i, k =>
    if 0 ≤ (i : Int) ∧ (i : Int) < (u1.length : Int) then
      laws_eqVersion_k y (rd (Ty.zero tVersion) u1 (i : Int)) (fun y1 =>
        bif (!y1) then
          k (.inl (false, (i : Int)))
        else
          laws_eqVersionS_w0 u0 u1 u2 l (i + 1) k)
    else none

theorem laws_eqVersionS_lw0 {u0 : (List dVersion)} {u1 : (List dVersion)} {u2 : Bool} (h0 : u0.length < 9223372036854775807) {K : (((List dVersion) × (List dVersion) × Bool × Int) ⊕ ((List dVersion) × (List dVersion) × Bool × Int)) → Option Res} : ∀ (l : List dVersion) (i : Nat)  (n : Nat), u0.drop i = l → l.length < n → loopK laws_eqVersionS_b0 n (u0, u1, u2, (i : Int)) K = laws_eqVersionS_w0 u0 u1 u2 l  i (Sum.elim (fun z => K (.inl (u0, u1, z.1, z.2))) (fun z => K (.inr (u0, u1, u2, z)))) := by
  intro l
  induction l with
  | nil =>
    intro i  n hd hn
    have hge := lwl_nil hd
    cases n with
    | zero => exact absurd hn (Nat.not_lt_zero _)
    | succ n => simp only [loopK, laws_eqVersionS_b0, laws_eqVersionS_w0, hge, decide_false, cond_false, Sum.elim_inr, Sum.elim_inl]
  | cons y l ih =>
    intro i  n hd hn
    obtain ⟨hlt, hz, hd2, hw, hnn⟩ := lwl_cons hd h0
    have hy := lwl_get hd
    cases n with
    | zero => exact absurd hn (Nat.not_lt_zero _)
    | succ n =>
      have ih2 := ih (i + 1)  n hd2 (Nat.lt_of_succ_lt_succ hn)
      simp only [loopK, laws_eqVersionS_b0, laws_eqVersionS_w0, hlt, hz, decide_true, cond_true, and_self, if_true, hy, hw, hnn, Sum.elim_inl, Sum.elim_inr, ih2]

theorem laws_eqVersionS_lz0 {u0 : (List dVersion)} {u1 : (List dVersion)} {u2 : Bool} (h0 : u0.length < 9223372036854775807) {K : (((List dVersion) × (List dVersion) × Bool × Int) ⊕ ((List dVersion) × (List dVersion) × Bool × Int)) → Option Res}  : loopK laws_eqVersionS_b0 Fuel (u0, u1, u2, (0 : Int)) K = laws_eqVersionS_w0 u0 u1 u2 u0  0 (Sum.elim (fun z => K (.inl (u0, u1, z.1, z.2))) (fun z => K (.inr (u0, u1, u2, z)))) :=
  laws_eqVersionS_lw0 h0 u0 0  Fuel rfl (lwl_fuel h0)

def laws_eqVersionS_t (a0 : (List dVersion)) (a1 : (List dVersion)) (k : Bool → Option Res) : Option Res :=
  bif ((a0.length : Int) != (a1.length : Int)) then
    k false
  else
    laws_eqVersionS_w0 a0 a1 false a0  0 (Sum.elim (fun z8 =>
      k z8.1) (fun _ =>
      k true))

theorem laws_eqVersionS_r {a0 : (List dVersion)} {a1 : (List dVersion)} (h0 : a0.length < 9223372036854775807) {k : Bool → Option Res} : laws_eqVersionS_k a0 a1 k = laws_eqVersionS_t a0 a1 k := by
  rw [laws_eqVersionS_e]
  simp only [laws_eqVersionS_d, laws_eqVersionS_t, (laws_eqVersionS_lz0 h0), Sum.elim_inl, Sum.elim_inr]

def laws_eqRangeS_w0 (u0 : (List dRange)) (u1 : (List dRange)) (u2 : Bool) : List dRange → Nat → (((Bool × Int) ⊕ Int) → Option Res) → Option Res
  | [], i, k =>
    k (.inr (i : Int))
  | y :: l, i, k =>
    if 0 ≤ (i : Int) ∧ (i : Int) < (u1.length : Int) then
      laws_eqRange_k y (rd (Ty.zero tRange) u1 (i : Int)) (fun y1 =>
        bif (!y1) then
          k (.inl (false, (i : Int)))
        else
          laws_eqRangeS_w0 u0 u1 u2 l (i + 1) k)
    else none

theorem laws_eqRangeS_lw0 {u0 : (List dRange)} {u1 : (List dRange)} {u2 : Bool} (h0 : u0.length < 9223372036854775807) {K : (((List dRange) × (List dRange) × Bool × Int) ⊕ ((List dRange) × (List dRange) × Bool × Int)) → Option Res} : ∀ (l : List dRange) (i : Nat)  (n : Nat), u0.drop i = l → l.length < n → loopK laws_eqRangeS_b0 n (u0, u1, u2, (i : Int)) K = laws_eqRangeS_w0 u0 u1 u2 l  i (Sum.elim (fun z => K (.inl (u0, u1, z.1, z.2))) (fun z => K (.inr (u0, u1, u2, z)))) := by
  intro l
  induction l with
  | nil =>
    intro i  n hd hn
    have hge := lwl_nil hd
    cases n with
    | zero => exact absurd hn (Nat.not_lt_zero _)
    | succ n => simp only [loopK, laws_eqRangeS_b0, laws_eqRangeS_w0, hge, decide_false, cond_false, Sum.elim_inr, Sum.elim_inl]
  | cons y l ih =>
    intro i  n hd hn
    obtain ⟨hlt, hz, hd2, hw, hnn⟩ := lwl_cons hd h0
    have hy := lwl_get hd
    cases n with
    | zero => exact absurd hn (Nat.not_lt_zero _)
    | succ n =>
      have ih2 := ih (i + 1)  n hd2 (Nat.lt_of_succ_lt_succ hn)
      simp only [loopK, laws_eqRangeS_b0, laws_eqRangeS_w0, hlt, hz, decide_true, cond_true, and_self, if_true, hy, hw, hnn, Sum.elim_inl, Sum.elim_inr, ih2]

theorem laws_eqRangeS_lz0 {u0 : (List dRange)} {u1 : (List dRange)} {u2 : Bool} (h0 : u0.length < 9223372036854775807) {K : (((List dRange) × (List dRange) × Bool × Int) ⊕ ((List dRange) × (List dRange) × Bool × Int)) → Option Res}  : loopK laws_eqRangeS_b0 Fuel (u0, u1, u2, (0 : Int)) K = laws_eqRangeS_w0 u0 u1 u2 u0  0 (Sum.elim (fun z => K (.inl (u0, u1, z.1, z.2))) (fun z => K (.inr (u0, u1, u2, z)))) :=
  laws_eqRangeS_lw0 h0 u0 0  Fuel rfl (lwl_fuel h0)

def laws_eqRangeS_t (a0 : (List dRange)) (a1 : (List dRange)) (k : Bool → Option Res) : Option Res :=
  bif ((a0.length : Int) != (a1.length : Int)) then
    k false
  else
    laws_eqRangeS_w0 a0 a1 false a0  0 (Sum.elim (fun z8 =>
      k z8.1) (fun _ =>
      k true))

theorem laws_eqRangeS_r {a0 : (List dRange)} {a1 : (List dRange)} (h0 : a0.length < 9223372036854775807) {k : Bool → Option Res} : laws_eqRangeS_k a0 a1 k = laws_eqRangeS_t a0 a1 k := by
  rw [laws_eqRangeS_e]
  simp only [laws_eqRangeS_d, laws_eqRangeS_t, (laws_eqRangeS_lz0 h0), Sum.elim_inl, Sum.elim_inr]

def laws_eqWriteS_w0 (u0 : (List dWrite)) (u1 : (List dWrite)) (u2 : Bool) : List dWrite → Nat → (((Bool × Int) ⊕ Int) → Option Res) → Option Res
  | [], i, k =>
    k (.inr (i : Int))
  | y :: l, i, k =>
    if 0 ≤ (i : Int) ∧ (i : Int) < (u1.length : Int) then
      laws_eqWrite_k y (rd (Ty.zero tWrite) u1 (i : Int)) (fun y1 =>
        bif (!y1) then
          k (.inl (false, (i : Int)))
        else
          laws_eqWriteS_w0 u0 u1 u2 l (i + 1) k)
    else none

theorem laws_eqWriteS_lw0 {u0 : (List dWrite)} {u1 : (List dWrite)} {u2 : Bool} (h0 : u0.length < 9223372036854775807) {K : (((List dWrite) × (List dWrite) × Bool × Int) ⊕ ((List dWrite) × (List dWrite) × Bool × Int)) → Option Res} : ∀ (l : List dWrite) (i : Nat)  (n : Nat), u0.drop i = l → l.length < n → loopK laws_eqWriteS_b0 n (u0, u1, u2, (i : Int)) K = laws_eqWriteS_w0 u0 u1 u2 l  i (Sum.elim (fun z => K (.inl (u0, u1, z.1, z.2))) (fun z => K (.inr (u0, u1, u2, z)))) := by
  intro l
  induction l with
  | nil =>
    intro i  n hd hn
    have hge := lwl_nil hd
    cases n with
    | zero => exact absurd hn (Nat.not_lt_zero _)
    | succ n => simp only [loopK, laws_eqWriteS_b0, laws_eqWriteS_w0, hge, decide_false, cond_false, Sum.elim_inr, Sum.elim_inl]
  | cons y l ih =>
    intro i  n hd hn
    obtain ⟨hlt, hz, hd2, hw, hnn⟩ := lwl_cons hd h0
    have hy := lwl_get hd
    cases n with
    | zero => exact absurd hn (Nat.not_lt_zero _)
    | succ n =>
      have ih2 := ih (i + 1)  n hd2 (Nat.lt_of_succ_lt_succ hn)
      simp only [loopK, laws_eqWriteS_b0, laws_eqWriteS_w0, hlt, hz, decide_true, cond_true, and_self, if_true, hy, hw, hnn, Sum.elim_inl, Sum.elim_inr, ih2]

theorem laws_eqWriteS_lz0 {u0 : (List dWrite)} {u1 : (List dWrite)} {u2 : Bool} (h0 : u0.length < 9223372036854775807) {K : (((List dWrite) × (List dWrite) × Bool × Int) ⊕ ((List dWrite) × (List dWrite) × Bool × Int)) → Option Res}  : loopK laws_eqWriteS_b0 Fuel (u0, u1, u2, (0 : Int)) K = laws_eqWriteS_w0 u0 u1 u2 u0  0 (Sum.elim (fun z => K (.inl (u0, u1, z.1, z.2))) (fun z => K (.inr (u0, u1, u2, z)))) :=
  laws_eqWriteS_lw0 h0 u0 0  Fuel rfl (lwl_fuel h0)

def laws_eqWriteS_t (a0 : (List dWrite)) (a1 : (List dWrite)) (k : Bool → Option Res) : Option Res :=
  bif ((a0.length : Int) != (a1.length : Int)) then
    k false
  else
    laws_eqWriteS_w0 a0 a1 false a0  0 (Sum.elim (fun z8 =>
      k z8.1) (fun _ =>
      k true))

theorem laws_eqWriteS_r {a0 : (List dWrite)} {a1 : (List dWrite)} (h0 : a0.length < 9223372036854775807) {k : Bool → Option Res} : laws_eqWriteS_k a0 a1 k = laws_eqWriteS_t a0 a1 k := by
  rw [laws_eqWriteS_e]
  simp only [laws_eqWriteS_d, laws_eqWriteS_t, (laws_eqWriteS_lz0 h0), Sum.elim_inl, Sum.elim_inr]

def laws_eqTxnS_w0 (u0 : (List dTxn)) (u1 : (List dTxn)) (u2 : Bool) : List dTxn → Nat → (((Bool × Int) ⊕ Int) → Option Res) → Option Res
  | [], i, k =>
    k (.inr (i : Int))
  | y :: l, i, k =>
    if 0 ≤ (i : Int) ∧ (i : Int) < (u1.length : Int) then
      laws_eqTxn_k y (rd (Ty.zero tTxn) u1 (i : Int)) (fun y1 =>
        bif (!y1) then
          k (.inl (false, (i : Int)))
        else
          laws_eqTxnS_w0 u0 u1 u2 l (i + 1) k)
    else none

theorem laws_eqTxnS_lw0 {u0 : (List dTxn)} {u1 : (List dTxn)} {u2 : Bool} (h0 : u0.length < 9223372036854775807) {K : (((List dTxn) × (List dTxn) × Bool × Int) ⊕ ((List dTxn) × (List dTxn) × Bool × Int)) → Option Res} : ∀ (l : List dTxn) (i : Nat)  (n : Nat), u0.drop i = l → l.length < n → loopK laws_eqTxnS_b0 n (u0, u1, u2, (i : Int)) K = laws_eqTxnS_w0 u0 u1 u2 l  i (Sum.elim (fun z => K (.inl (u0, u1, z.1, z.2))) (fun z => K (.inr (u0, u1, u2, z)))) := by
  intro l
  induction l with
  | nil =>
    intro i  n hd hn
    have hge := lwl_nil hd
    cases n with
    | zero => exact absurd hn (Nat.not_lt_zero _)
    | succ n => simp only [loopK, laws_eqTxnS_b0, laws_eqTxnS_w0, hge, decide_false, cond_false, Sum.elim_inr, Sum.elim_inl]
  | cons y l ih =>
    intro i  n hd hn
    obtain ⟨hlt, hz, hd2, hw, hnn⟩ := lwl_cons hd h0
    have hy := lwl_get hd
    cases n with
    | zero => exact absurd hn (Nat.not_lt_zero _)
    | succ n =>
      have ih2 := ih (i + 1)  n hd2 (Nat.lt_of_succ_lt_succ hn)
      simp only [loopK, laws_eqTxnS_b0, laws_eqTxnS_w0, hlt, hz, decide_true, cond_true, and_self, if_true, hy, hw, hnn, Sum.elim_inl, Sum.elim_inr, ih2]

theorem laws_eqTxnS_lz0 {u0 : (List dTxn)} {u1 : (List dTxn)} {u2 : Bool} (h0 : u0.length < 9223372036854775807) {K : (((List dTxn) × (List dTxn) × Bool × Int) ⊕ ((List dTxn) × (List dTxn) × Bool × Int)) → Option Res}  : loopK laws_eqTxnS_b0 Fuel (u0, u1, u2, (0 : Int)) K = laws_eqTxnS_w0 u0 u1 u2 u0  0 (Sum.elim (fun z => K (.inl (u0, u1, z.1, z.2))) (fun z => K (.inr (u0, u1, u2, z)))) :=
  laws_eqTxnS_lw0 h0 u0 0  Fuel rfl (lwl_fuel h0)

def laws_eqTxnS_t (a0 : (List dTxn)) (a1 : (List dTxn)) (k : Bool → Option Res) : Option Res :=
  bif ((a0.length : Int) != (a1.length : Int)) then
    k false
  else
    laws_eqTxnS_w0 a0 a1 false a0  0 (Sum.elim (fun z8 =>
      k z8.1) (fun _ =>
      k true))

theorem laws_eqTxnS_r {a0 : (List dTxn)} {a1 : (List dTxn)} (h0 : a0.length < 9223372036854775807) {k : Bool → Option Res} : laws_eqTxnS_k a0 a1 k = laws_eqTxnS_t a0 a1 k := by
  rw [laws_eqTxnS_e]
  simp only [laws_eqTxnS_d, laws_eqTxnS_t, (laws_eqTxnS_lz0 h0), Sum.elim_inl, Sum.elim_inr]

end

end Go.VE
