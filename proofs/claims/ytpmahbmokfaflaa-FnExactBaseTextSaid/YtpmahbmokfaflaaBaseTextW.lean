/- Loops told as recursions over what is left; written by gen.py. -/

import Derived.Test.YtpmahbmokfaflaaBaseTextN

import Derived.Test.YtpmahbmokfaflaaP1

namespace Go.VE

noncomputable section

set_option linter.unusedVariables false
set_option linter.unusedSimpArgs false
set_option maxRecDepth 100000


def laws_szVersionS_w0 (u0 : (List dVersion)) (u2 : Int) : List dVersion → Int → Nat → (((Int × Int × Int) ⊕ (Int × Int)) → Option Res) → Option Res
  | [], s1, i, k =>
    k (.inr (s1, (i : Int)))
  | y :: l, s1, i, k =>
    laws_szVersion_k y s1 (fun y1 =>
      bif (decide (y1 < (0 : Int))) then
        k (.inl (y1, (-1 : Int), (i : Int)))
      else
        laws_szVersionS_w0 u0 u2 l y1 (i + 1) k)

theorem laws_szVersionS_lw0 {u0 : (List dVersion)} {u2 : Int} (h0 : u0.length < 9223372036854775807) {K : (((List dVersion) × Int × Int × Int) ⊕ ((List dVersion) × Int × Int × Int)) → Option Res} : ∀ (l : List dVersion) (i : Nat) (s1 : Int) (n : Nat), u0.drop i = l → l.length < n → loopK laws_szVersionS_b0 n (u0, s1, u2, (i : Int)) K = laws_szVersionS_w0 u0 u2 l s1 i (Sum.elim (fun z => K (.inl (u0, z.1, z.2.1, z.2.2))) (fun z => K (.inr (u0, z.1, u2, z.2)))) := by
  intro l
  induction l with
  | nil =>
    intro i s1 n hd hn
    have hge := lwl_nil hd
    cases n with
    | zero => exact absurd hn (Nat.not_lt_zero _)
    | succ n => simp only [loopK, laws_szVersionS_b0, laws_szVersionS_w0, hge, decide_false, cond_false, Sum.elim_inr, Sum.elim_inl]
  | cons y l ih =>
    intro i s1 n hd hn
    obtain ⟨hlt, hz, hd2, hw, hnn⟩ := lwl_cons hd h0
    have hy := lwl_get hd
    cases n with
    | zero => exact absurd hn (Nat.not_lt_zero _)
    | succ n =>
      have ih2 := fun (s1 : Int) => ih (i + 1) s1 n hd2 (Nat.lt_of_succ_lt_succ hn)
      simp only [loopK, laws_szVersionS_b0, laws_szVersionS_w0, hlt, hz, decide_true, cond_true, and_self, if_true, hy, hw, hnn, Sum.elim_inl, Sum.elim_inr, ih2]

theorem laws_szVersionS_lz0 {u0 : (List dVersion)} {u2 : Int} (h0 : u0.length < 9223372036854775807) {K : (((List dVersion) × Int × Int × Int) ⊕ ((List dVersion) × Int × Int × Int)) → Option Res} {s1 : Int} : loopK laws_szVersionS_b0 Fuel (u0, s1, u2, (0 : Int)) K = laws_szVersionS_w0 u0 u2 u0 s1 0 (Sum.elim (fun z => K (.inl (u0, z.1, z.2.1, z.2.2))) (fun z => K (.inr (u0, z.1, u2, z.2)))) :=
  laws_szVersionS_lw0 h0 u0 0 s1 Fuel rfl (lwl_fuel h0)

def laws_szVersionS_t (a0 : (List dVersion)) (a1 : Int) (k : Int → Option Res) : Option Res :=
  bif (decide ((IntKind.wrap .i64 (a1 - (a0.length : Int))) < (0 : Int))) then
    k (-1 : Int)
  else
    laws_szVersionS_w0 a0 (0 : Int) a0 (IntKind.wrap .i64 (a1 - (a0.length : Int))) 0 (Sum.elim (fun z9 =>
      k z9.2.1) (fun z10 =>
      k z10.1))

theorem laws_szVersionS_r {a0 : (List dVersion)} {a1 : Int} (h0 : a0.length < 9223372036854775807) {k : Int → Option Res} : laws_szVersionS_k a0 a1 k = laws_szVersionS_t a0 a1 k := by
  rw [laws_szVersionS_e]
  simp only [laws_szVersionS_d, laws_szVersionS_t, (laws_szVersionS_lz0 h0), Sum.elim_inl, Sum.elim_inr]

def laws_szRangeS_w0 (u0 : (List dRange)) (u2 : Int) : List dRange → Int → Nat → (((Int × Int × Int) ⊕ (Int × Int)) → Option Res) → Option Res
  | [], s1, i, k =>
    k (.inr (s1, (i : Int)))
  | y :: l, s1, i, k =>
    laws_szRange_k y s1 (fun y1 =>
      bif (decide (y1 < (0 : Int))) then
        k (.inl (y1, (-1 : Int), (i : Int)))
      else
        laws_szRangeS_w0 u0 u2 l y1 (i + 1) k)

theorem laws_szRangeS_lw0 {u0 : (List dRange)} {u2 : Int} (h0 : u0.length < 9223372036854775807) {K : (((List dRange) × Int × Int × Int) ⊕ ((List dRange) × Int × Int × Int)) → Option Res} : ∀ (l : List dRange) (i : Nat) (s1 : Int) (n : Nat), u0.drop i = l → l.length < n → loopK laws_szRangeS_b0 n (u0, s1, u2, (i : Int)) K = laws_szRangeS_w0 u0 u2 l s1 i (Sum.elim (fun z => K (.inl (u0, z.1, z.2.1, z.2.2))) (fun z => K (.inr (u0, z.1, u2, z.2)))) := by
  intro l
  induction l with
  | nil =>
    intro i s1 n hd hn
    have hge := lwl_nil hd
    cases n with
    | zero => exact absurd hn (Nat.not_lt_zero _)
    | succ n => simp only [loopK, laws_szRangeS_b0, laws_szRangeS_w0, hge, decide_false, cond_false, Sum.elim_inr, Sum.elim_inl]
  | cons y l ih =>
    intro i s1 n hd hn
    obtain ⟨hlt, hz, hd2, hw, hnn⟩ := lwl_cons hd h0
    have hy := lwl_get hd
    cases n with
    | zero => exact absurd hn (Nat.not_lt_zero _)
    | succ n =>
      have ih2 := fun (s1 : Int) => ih (i + 1) s1 n hd2 (Nat.lt_of_succ_lt_succ hn)
      simp only [loopK, laws_szRangeS_b0, laws_szRangeS_w0, hlt, hz, decide_true, cond_true, and_self, if_true, hy, hw, hnn, Sum.elim_inl, Sum.elim_inr, ih2]

theorem laws_szRangeS_lz0 {u0 : (List dRange)} {u2 : Int} (h0 : u0.length < 9223372036854775807) {K : (((List dRange) × Int × Int × Int) ⊕ ((List dRange) × Int × Int × Int)) → Option Res} {s1 : Int} : loopK laws_szRangeS_b0 Fuel (u0, s1, u2, (0 : Int)) K = laws_szRangeS_w0 u0 u2 u0 s1 0 (Sum.elim (fun z => K (.inl (u0, z.1, z.2.1, z.2.2))) (fun z => K (.inr (u0, z.1, u2, z.2)))) :=
  laws_szRangeS_lw0 h0 u0 0 s1 Fuel rfl (lwl_fuel h0)

def laws_szRangeS_t (a0 : (List dRange)) (a1 : Int) (k : Int → Option Res) : Option Res :=
  bif (decide ((IntKind.wrap .i64 (a1 - (a0.length : Int))) < (0 : Int))) then
    k (-1 : Int)
  else
    laws_szRangeS_w0 a0 (0 : Int) a0 (IntKind.wrap .i64 (a1 - (a0.length : Int))) 0 (Sum.elim (fun z9 =>
      k z9.2.1) (fun z10 =>
      k z10.1))

theorem laws_szRangeS_r {a0 : (List dRange)} {a1 : Int} (h0 : a0.length < 9223372036854775807) {k : Int → Option Res} : laws_szRangeS_k a0 a1 k = laws_szRangeS_t a0 a1 k := by
  rw [laws_szRangeS_e]
  simp only [laws_szRangeS_d, laws_szRangeS_t, (laws_szRangeS_lz0 h0), Sum.elim_inl, Sum.elim_inr]

def laws_szWriteS_w0 (u0 : (List dWrite)) (u2 : Int) : List dWrite → Int → Nat → (((Int × Int × Int) ⊕ (Int × Int)) → Option Res) → Option Res
  | [], s1, i, k =>
    k (.inr (s1, (i : Int)))
  | y :: l, s1, i, k =>
    laws_szWrite_k y s1 (fun y1 =>
      bif (decide (y1 < (0 : Int))) then
        k (.inl (y1, (-1 : Int), (i : Int)))
      else
        laws_szWriteS_w0 u0 u2 l y1 (i + 1) k)

theorem laws_szWriteS_lw0 {u0 : (List dWrite)} {u2 : Int} (h0 : u0.length < 9223372036854775807) {K : (((List dWrite) × Int × Int × Int) ⊕ ((List dWrite) × Int × Int × Int)) → Option Res} : ∀ (l : List dWrite) (i : Nat) (s1 : Int) (n : Nat), u0.drop i = l → l.length < n → loopK laws_szWriteS_b0 n (u0, s1, u2, (i : Int)) K = laws_szWriteS_w0 u0 u2 l s1 i (Sum.elim (fun z => K (.inl (u0, z.1, z.2.1, z.2.2))) (fun z => K (.inr (u0, z.1, u2, z.2)))) := by
  intro l
  induction l with
  | nil =>
    intro i s1 n hd hn
    have hge := lwl_nil hd
    cases n with
    | zero => exact absurd hn (Nat.not_lt_zero _)
    | succ n => simp only [loopK, laws_szWriteS_b0, laws_szWriteS_w0, hge, decide_false, cond_false, Sum.elim_inr, Sum.elim_inl]
  | cons y l ih =>
    intro i s1 n hd hn
    obtain ⟨hlt, hz, hd2, hw, hnn⟩ := lwl_cons hd h0
    have hy := lwl_get hd
    cases n with
    | zero => exact absurd hn (Nat.not_lt_zero _)
    | succ n =>
      have ih2 := fun (s1 : Int) => ih (i + 1) s1 n hd2 (Nat.lt_of_succ_lt_succ hn)
      simp only [loopK, laws_szWriteS_b0, laws_szWriteS_w0, hlt, hz, decide_true, cond_true, and_self, if_true, hy, hw, hnn, Sum.elim_inl, Sum.elim_inr, ih2]

theorem laws_szWriteS_lz0 {u0 : (List dWrite)} {u2 : Int} (h0 : u0.length < 9223372036854775807) {K : (((List dWrite) × Int × Int × Int) ⊕ ((List dWrite) × Int × Int × Int)) → Option Res} {s1 : Int} : loopK laws_szWriteS_b0 Fuel (u0, s1, u2, (0 : Int)) K = laws_szWriteS_w0 u0 u2 u0 s1 0 (Sum.elim (fun z => K (.inl (u0, z.1, z.2.1, z.2.2))) (fun z => K (.inr (u0, z.1, u2, z.2)))) :=
  laws_szWriteS_lw0 h0 u0 0 s1 Fuel rfl (lwl_fuel h0)

def laws_szWriteS_t (a0 : (List dWrite)) (a1 : Int) (k : Int → Option Res) : Option Res :=
  bif (decide ((IntKind.wrap .i64 (a1 - (a0.length : Int))) < (0 : Int))) then
    k (-1 : Int)
  else
    laws_szWriteS_w0 a0 (0 : Int) a0 (IntKind.wrap .i64 (a1 - (a0.length : Int))) 0 (Sum.elim (fun z9 =>
      k z9.2.1) (fun z10 =>
      k z10.1))

theorem laws_szWriteS_r {a0 : (List dWrite)} {a1 : Int} (h0 : a0.length < 9223372036854775807) {k : Int → Option Res} : laws_szWriteS_k a0 a1 k = laws_szWriteS_t a0 a1 k := by
  rw [laws_szWriteS_e]
  simp only [laws_szWriteS_d, laws_szWriteS_t, (laws_szWriteS_lz0 h0), Sum.elim_inl, Sum.elim_inr]

def laws_szTxnS_w0 (u0 : (List dTxn)) (u2 : Int) : List dTxn → Int → Nat → (((Int × Int × Int) ⊕ (Int × Int)) → Option Res) → Option Res
  | [], s1, i, k =>
    k (.inr (s1, (i : Int)))
  | y :: l, s1, i, k =>
    laws_szTxn_k y s1 (fun y1 =>
      bif (decide (y1 < (0 : Int))) then
        k (.inl (y1, (-1 : Int), (i : Int)))
      else
        laws_szTxnS_w0 u0 u2 l y1 (i + 1) k)

theorem laws_szTxnS_lw0 {u0 : (List dTxn)} {u2 : Int} (h0 : u0.length < 9223372036854775807) {K : (((List dTxn) × Int × Int × Int) ⊕ ((List dTxn) × Int × Int × Int)) → Option Res} : ∀ (l : List dTxn) (i : Nat) (s1 : Int) (n : Nat), u0.drop i = l → l.length < n → loopK laws_szTxnS_b0 n (u0, s1, u2, (i : Int)) K = laws_szTxnS_w0 u0 u2 l s1 i (Sum.elim (fun z => K (.inl (u0, z.1, z.2.1, z.2.2))) (fun z => K (.inr (u0, z.1, u2, z.2)))) := by
  intro l
  induction l with
  | nil =>
    intro i s1 n hd hn
    have hge := lwl_nil hd
    cases n with
    | zero => exact absurd hn (Nat.not_lt_zero _)
    | succ n => simp only [loopK, laws_szTxnS_b0, laws_szTxnS_w0, hge, decide_false, cond_false, Sum.elim_inr, Sum.elim_inl]
  | cons y l ih =>
    intro i s1 n hd hn
    obtain ⟨hlt, hz, hd2, hw, hnn⟩ := lwl_cons hd h0
    have hy := lwl_get hd
    cases n with
    | zero => exact absurd hn (Nat.not_lt_zero _)
    | succ n =>
      have ih2 := fun (s1 : Int) => ih (i + 1) s1 n hd2 (Nat.lt_of_succ_lt_succ hn)
      simp only [loopK, laws_szTxnS_b0, laws_szTxnS_w0, hlt, hz, decide_true, cond_true, and_self, if_true, hy, hw, hnn, Sum.elim_inl, Sum.elim_inr, ih2]

theorem laws_szTxnS_lz0 {u0 : (List dTxn)} {u2 : Int} (h0 : u0.length < 9223372036854775807) {K : (((List dTxn) × Int × Int × Int) ⊕ ((List dTxn) × Int × Int × Int)) → Option Res} {s1 : Int} : loopK laws_szTxnS_b0 Fuel (u0, s1, u2, (0 : Int)) K = laws_szTxnS_w0 u0 u2 u0 s1 0 (Sum.elim (fun z => K (.inl (u0, z.1, z.2.1, z.2.2))) (fun z => K (.inr (u0, z.1, u2, z.2)))) :=
  laws_szTxnS_lw0 h0 u0 0 s1 Fuel rfl (lwl_fuel h0)

def laws_szTxnS_t (a0 : (List dTxn)) (a1 : Int) (k : Int → Option Res) : Option Res :=
  bif (decide ((IntKind.wrap .i64 (a1 - (a0.length : Int))) < (0 : Int))) then
    k (-1 : Int)
  else
    laws_szTxnS_w0 a0 (0 : Int) a0 (IntKind.wrap .i64 (a1 - (a0.length : Int))) 0 (Sum.elim (fun z9 =>
      k z9.2.1) (fun z10 =>
      k z10.1))

theorem laws_szTxnS_r {a0 : (List dTxn)} {a1 : Int} (h0 : a0.length < 9223372036854775807) {k : Int → Option Res} : laws_szTxnS_k a0 a1 k = laws_szTxnS_t a0 a1 k := by
  rw [laws_szTxnS_e]
  simp only [laws_szTxnS_d, laws_szTxnS_t, (laws_szTxnS_lz0 h0), Sum.elim_inl, Sum.elim_inr]

def laws_toVersionS_w0 (u0 : (List dVersion)) : List dVersion → (List dVersion) → Nat → ((Int × (List dVersion)) → Option Res) → Option Res
  | [], s2, i, k =>
    k ((i : Int), s2)
  | y :: l, s2, i, k =>
    laws_toVersion_k y (fun y1 =>
      if 0 ≤ (i : Int) ∧ (i : Int) < (s2.length : Int) then
        laws_toVersionS_w0 u0 l (s2.set (i : Int).toNat y1) (i + 1) k
      else none)

theorem laws_toVersionS_lw0 {u0 : (List dVersion)} (h0 : u0.length < 9223372036854775807) {K : ((List dVersion) × Int × (List dVersion)) → Option Res} : ∀ (l : List dVersion) (i : Nat) (s2 : (List dVersion)) (n : Nat), u0.drop i = l → l.length < n → loopK laws_toVersionS_b0 n (u0, (i : Int), s2) K = laws_toVersionS_w0 u0 l s2 i (fun z => K (u0, z.1, z.2)) := by
  intro l
  induction l with
  | nil =>
    intro i s2 n hd hn
    have hge := lwl_nil hd
    cases n with
    | zero => exact absurd hn (Nat.not_lt_zero _)
    | succ n => simp only [loopK, laws_toVersionS_b0, laws_toVersionS_w0, hge, decide_false, cond_false, Sum.elim_inr, Sum.elim_inl]
  | cons y l ih =>
    intro i s2 n hd hn
    obtain ⟨hlt, hz, hd2, hw, hnn⟩ := lwl_cons hd h0
    have hy := lwl_get hd
    cases n with
    | zero => exact absurd hn (Nat.not_lt_zero _)
    | succ n =>
      have ih2 := fun (s2 : (List dVersion)) => ih (i + 1) s2 n hd2 (Nat.lt_of_succ_lt_succ hn)
      simp only [loopK, laws_toVersionS_b0, laws_toVersionS_w0, hlt, hz, decide_true, cond_true, and_self, if_true, hy, hw, hnn, Sum.elim_inl, Sum.elim_inr, ih2]

theorem laws_toVersionS_lz0 {u0 : (List dVersion)} (h0 : u0.length < 9223372036854775807) {K : ((List dVersion) × Int × (List dVersion)) → Option Res} {s2 : (List dVersion)} : loopK laws_toVersionS_b0 Fuel (u0, (0 : Int), s2) K = laws_toVersionS_w0 u0 u0 s2 0 (fun z => K (u0, z.1, z.2)) :=
  laws_toVersionS_lw0 h0 u0 0 s2 Fuel rfl (lwl_fuel h0)

def laws_toVersionS_t (a0 : (List dVersion)) (k : (List dVersion) → Option Res) : Option Res :=
  if 0 ≤ (a0.length : Int) ∧ (a0.length : Int) ≤ (a0.length : Int) ∧ (a0.length : Int) ≤ (VE.maxLen : Int) then
    laws_toVersionS_w0 a0 a0 (List.replicate (a0.length : Int).toNat (Ty.zero tVersion)) 0 (fun z9 =>
      k z9.2)
  else none

theorem laws_toVersionS_r {a0 : (List dVersion)} (h0 : a0.length < 9223372036854775807) {k : (List dVersion) → Option Res} : laws_toVersionS_k a0 k = laws_toVersionS_t a0 k := by
  rw [laws_toVersionS_e]
  simp only [laws_toVersionS_d, laws_toVersionS_t, (laws_toVersionS_lz0 h0), Sum.elim_inl, Sum.elim_inr]

def laws_toRangeS_w0 (u0 : (List dRange)) : List dRange → (List dRange) → Nat → ((Int × (List dRange)) → Option Res) → Option Res
  | [], s2, i, k =>
    k ((i : Int), s2)
  | y :: l, s2, i, k =>
    laws_toRange_k y (fun y1 =>
      if 0 ≤ (i : Int) ∧ (i : Int) < (s2.length : Int) then
        laws_toRangeS_w0 u0 l (s2.set (i : Int).toNat y1) (i + 1) k
      else none)

theorem laws_toRangeS_lw0 {u0 : (List dRange)} (h0 : u0.length < 9223372036854775807) {K : ((List dRange) × Int × (List dRange)) → Option Res} : ∀ (l : List dRange) (i : Nat) (s2 : (List dRange)) (n : Nat), u0.drop i = l → l.length < n → loopK laws_toRangeS_b0 n (u0, (i : Int), s2) K = laws_toRangeS_w0 u0 l s2 i (fun z => K (u0, z.1, z.2)) := by
  intro l
  induction l with
  | nil =>
    intro i s2 n hd hn
    have hge := lwl_nil hd
    cases n with
    | zero => exact absurd hn (Nat.not_lt_zero _)
    | succ n => simp only [loopK, laws_toRangeS_b0, laws_toRangeS_w0, hge, decide_false, cond_false, Sum.elim_inr, Sum.elim_inl]
  | cons y l ih =>
    intro i s2 n hd hn
    obtain ⟨hlt, hz, hd2, hw, hnn⟩ := lwl_cons hd h0
    have hy := lwl_get hd
    cases n with
    | zero => exact absurd hn (Nat.not_lt_zero _)
    | succ n =>
      have ih2 := fun (s2 : (List dRange)) => ih (i + 1) s2 n hd2 (Nat.lt_of_succ_lt_succ hn)
      simp only [loopK, laws_toRangeS_b0, laws_toRangeS_w0, hlt, hz, decide_true, cond_true, and_self, if_true, hy, hw, hnn, Sum.elim_inl, Sum.elim_inr, ih2]

theorem laws_toRangeS_lz0 {u0 : (List dRange)} (h0 : u0.length < 9223372036854775807) {K : ((List dRange) × Int × (List dRange)) → Option Res} {s2 : (List dRange)} : loopK laws_toRangeS_b0 Fuel (u0, (0 : Int), s2) K = laws_toRangeS_w0 u0 u0 s2 0 (fun z => K (u0, z.1, z.2)) :=
  laws_toRangeS_lw0 h0 u0 0 s2 Fuel rfl (lwl_fuel h0)

def laws_toRangeS_t (a0 : (List dRange)) (k : (List dRange) → Option Res) : Option Res :=
  if 0 ≤ (a0.length : Int) ∧ (a0.length : Int) ≤ (a0.length : Int) ∧ (a0.length : Int) ≤ (VE.maxLen : Int) then
    laws_toRangeS_w0 a0 a0 (List.replicate (a0.length : Int).toNat (Ty.zero tRange)) 0 (fun z9 =>
      k z9.2)
  else none

theorem laws_toRangeS_r {a0 : (List dRange)} (h0 : a0.length < 9223372036854775807) {k : (List dRange) → Option Res} : laws_toRangeS_k a0 k = laws_toRangeS_t a0 k := by
  rw [laws_toRangeS_e]
  simp only [laws_toRangeS_d, laws_toRangeS_t, (laws_toRangeS_lz0 h0), Sum.elim_inl, Sum.elim_inr]

def laws_toWriteS_w0 (u0 : (List dWrite)) : List dWrite → (List dWrite) → Nat → ((Int × (List dWrite)) → Option Res) → Option Res
  | [], s2, i, k =>
    k ((i : Int), s2)
  | y :: l, s2, i, k =>
    laws_toWrite_k y (fun y1 =>
      if 0 ≤ (i : Int) ∧ (i : Int) < (s2.length : Int) then
        laws_toWriteS_w0 u0 l (s2.set (i : Int).toNat y1) (i + 1) k
      else none)

theorem laws_toWriteS_lw0 {u0 : (List dWrite)} (h0 : u0.length < 9223372036854775807) {K : ((List dWrite) × Int × (List dWrite)) → Option Res} : ∀ (l : List dWrite) (i : Nat) (s2 : (List dWrite)) (n : Nat), u0.drop i = l → l.length < n → loopK laws_toWriteS_b0 n (u0, (i : Int), s2) K = laws_toWriteS_w0 u0 l s2 i (fun z => K (u0, z.1, z.2)) := by
  intro l
  induction l with
  | nil =>
    intro i s2 n hd hn
    have hge := lwl_nil hd
    cases n with
    | zero => exact absurd hn (Nat.not_lt_zero _)
    | succ n => simp only [loopK, laws_toWriteS_b0, laws_toWriteS_w0, hge, decide_false, cond_false, Sum.elim_inr, Sum.elim_inl]
  | cons y l ih =>
    intro i s2 n hd hn
    obtain ⟨hlt, hz, hd2, hw, hnn⟩ := lwl_cons hd h0
    have hy := lwl_get hd
    cases n with
    | zero => exact absurd hn (Nat.not_lt_zero _)
    | succ n =>
      have ih2 := fun (s2 : (List dWrite)) => ih (i + 1) s2 n hd2 (Nat.lt_of_succ_lt_succ hn)
      simp only [loopK, laws_toWriteS_b0, laws_toWriteS_w0, hlt, hz, decide_true, cond_true, and_self, if_true, hy, hw, hnn, Sum.elim_inl, Sum.elim_inr, ih2]

theorem laws_toWriteS_lz0 {u0 : (List dWrite)} (h0 : u0.length < 9223372036854775807) {K : ((List dWrite) × Int × (List dWrite)) → Option Res} {s2 : (List dWrite)} : loopK laws_toWriteS_b0 Fuel (u0, (0 : Int), s2) K = laws_toWriteS_w0 u0 u0 s2 0 (fun z => K (u0, z.1, z.2)) :=
  laws_toWriteS_lw0 h0 u0 0 s2 Fuel rfl (lwl_fuel h0)

def laws_toWriteS_t (a0 : (List dWrite)) (k : (List dWrite) → Option Res) : Option Res :=
  if 0 ≤ (a0.length : Int) ∧ (a0.length : Int) ≤ (a0.length : Int) ∧ (a0.length : Int) ≤ (VE.maxLen : Int) then
    laws_toWriteS_w0 a0 a0 (List.replicate (a0.length : Int).toNat (Ty.zero tWrite)) 0 (fun z9 =>
      k z9.2)
  else none

theorem laws_toWriteS_r {a0 : (List dWrite)} (h0 : a0.length < 9223372036854775807) {k : (List dWrite) → Option Res} : laws_toWriteS_k a0 k = laws_toWriteS_t a0 k := by
  rw [laws_toWriteS_e]
  simp only [laws_toWriteS_d, laws_toWriteS_t, (laws_toWriteS_lz0 h0), Sum.elim_inl, Sum.elim_inr]

def laws_toTxnS_w0 (u0 : (List dTxn)) : List dTxn → (List dTxn) → Nat → ((Int × (List dTxn)) → Option Res) → Option Res
  | [], s2, i, k =>
    k ((i : Int), s2)
  | y :: l, s2, i, k =>
    laws_toTxn_k y (fun y1 =>
      if 0 ≤ (i : Int) ∧ (i : Int) < (s2.length : Int) then
        laws_toTxnS_w0 u0 l (s2.set (i : Int).toNat (y1.1, (y1.2.1, (y1.2.2.1, (y1.2.2.2.1, (y1.2.2.2.2.2.2.1, (y1.2.2.2.2.2.2.2, (y1.2.2.2.2.1, y1.2.2.2.2.2.1)))))))) (i + 1) k
      else none)

theorem laws_toTxnS_lw0 {u0 : (List dTxn)} (h0 : u0.length < 9223372036854775807) {K : ((List dTxn) × Int × (List dTxn)) → Option Res} : ∀ (l : List dTxn) (i : Nat) (s2 : (List dTxn)) (n : Nat), u0.drop i = l → l.length < n → loopK laws_toTxnS_b0 n (u0, (i : Int), s2) K = laws_toTxnS_w0 u0 l s2 i (fun z => K (u0, z.1, z.2)) := by
  intro l
  induction l with
  | nil =>
    intro i s2 n hd hn
    have hge := lwl_nil hd
    cases n with
    | zero => exact absurd hn (Nat.not_lt_zero _)
    | succ n => simp only [loopK, laws_toTxnS_b0, laws_toTxnS_w0, hge, decide_false, cond_false, Sum.elim_inr, Sum.elim_inl]
  | cons y l ih =>
    intro i s2 n hd hn
    obtain ⟨hlt, hz, hd2, hw, hnn⟩ := lwl_cons hd h0
    have hy := lwl_get hd
    cases n with
    | zero => exact absurd hn (Nat.not_lt_zero _)
    | succ n =>
      have ih2 := fun (s2 : (List dTxn)) => ih (i + 1) s2 n hd2 (Nat.lt_of_succ_lt_succ hn)
      simp only [loopK, laws_toTxnS_b0, laws_toTxnS_w0, hlt, hz, decide_true, cond_true, and_self, if_true, hy, hw, hnn, Sum.elim_inl, Sum.elim_inr, ih2]

theorem laws_toTxnS_lz0 {u0 : (List dTxn)} (h0 : u0.length < 9223372036854775807) {K : ((List dTxn) × Int × (List dTxn)) → Option Res} {s2 : (List dTxn)} : loopK laws_toTxnS_b0 Fuel (u0, (0 : Int), s2) K = laws_toTxnS_w0 u0 u0 s2 0 (fun z => K (u0, z.1, z.2)) :=
  laws_toTxnS_lw0 h0 u0 0 s2 Fuel rfl (lwl_fuel h0)

def laws_toTxnS_t (a0 : (List dTxn)) (k : (List dTxn) → Option Res) : Option Res :=
  if 0 ≤ (a0.length : Int) ∧ (a0.length : Int) ≤ (a0.length : Int) ∧ (a0.length : Int) ≤ (VE.maxLen : Int) then
    laws_toTxnS_w0 a0 a0 (List.replicate (a0.length : Int).toNat (Ty.zero tTxn)) 0 (fun z9 =>
      k z9.2)
  else none

theorem laws_toTxnS_r {a0 : (List dTxn)} (h0 : a0.length < 9223372036854775807) {k : (List dTxn) → Option Res} : laws_toTxnS_k a0 k = laws_toTxnS_t a0 k := by
  rw [laws_toTxnS_e]
  simp only [laws_toTxnS_d, laws_toTxnS_t, (laws_toTxnS_lz0 h0), Sum.elim_inl, Sum.elim_inr]

def spec_KeyOk_w0 (u0 : ByteArray) (u1 : Bool) : List Int → Nat → (((Bool × Int) ⊕ Int) → Option Res) → Option Res
  | [], i, k =>
    k (.inr (i : Int))
  | y :: l, i, k =>
    bif (decide (y < (97 : Int))) then
      k (.inl (false, (i : Int)))
    else
      bif (decide (y > (122 : Int))) then
        k (.inl (false, (i : Int)))
      else
        spec_KeyOk_w0 u0 u1 l (i + 1) k

theorem spec_KeyOk_lw0 {u0 : ByteArray} {u1 : Bool} (h0 : u0.size < 9223372036854775807) {K : ((ByteArray × Bool × Int) ⊕ (ByteArray × Bool × Int)) → Option Res} : ∀ (l : List Int) (i : Nat)  (n : Nat), (intsOf u0).drop i = l → l.length < n → loopK spec_KeyOk_b0 n (u0, u1, (i : Int)) K = spec_KeyOk_w0 u0 u1 l  i (Sum.elim (fun z => K (.inl (u0, z.1, z.2))) (fun z => K (.inr (u0, u1, z)))) := by
  intro l
  induction l with
  | nil =>
    intro i  n hd hn
    have hge := lws_nil hd
    cases n with
    | zero => exact absurd hn (Nat.not_lt_zero _)
    | succ n => simp only [loopK, spec_KeyOk_b0, spec_KeyOk_w0, hge, decide_false, cond_false, Sum.elim_inr, Sum.elim_inl]
  | cons y l ih =>
    intro i  n hd hn
    obtain ⟨hlt, hz, hd2, hw, hnn⟩ := lws_cons hd h0
    have hy := lws_get hd
    cases n with
    | zero => exact absurd hn (Nat.not_lt_zero _)
    | succ n =>
      have ih2 := ih (i + 1)  n hd2 (Nat.lt_of_succ_lt_succ hn)
      simp only [loopK, spec_KeyOk_b0, spec_KeyOk_w0, hlt, hz, decide_true, cond_true, and_self, if_true, hy, hw, hnn, Sum.elim_inl, Sum.elim_inr, ih2]

theorem spec_KeyOk_lz0 {u0 : ByteArray} {u1 : Bool} (h0 : u0.size < 9223372036854775807) {K : ((ByteArray × Bool × Int) ⊕ (ByteArray × Bool × Int)) → Option Res}  : loopK spec_KeyOk_b0 Fuel (u0, u1, (0 : Int)) K = spec_KeyOk_w0 u0 u1 (intsOf u0)  0 (Sum.elim (fun z => K (.inl (u0, z.1, z.2))) (fun z => K (.inr (u0, u1, z)))) :=
  spec_KeyOk_lw0 h0 (intsOf u0) 0  Fuel rfl (lws_fuel h0)

def spec_KeyOk_t (a0 : ByteArray) (k : Bool → Option Res) : Option Res :=
  spec_KeyOk_w0 a0 false (intsOf a0)  0 (Sum.elim (fun z9 =>
    k z9.1) (fun _ =>
    spec_l01In_k (a0.size : Int) (1 : Int) (3 : Int) (fun y11 =>
      k y11)))

theorem spec_KeyOk_r {a0 : ByteArray} (h0 : a0.size < 9223372036854775807) {k : Bool → Option Res} : spec_KeyOk_k a0 k = spec_KeyOk_t a0 k := by
  rw [spec_KeyOk_e]
  simp only [spec_KeyOk_d, spec_KeyOk_t, (spec_KeyOk_lz0 h0), Sum.elim_inl, Sum.elim_inr]

def spec_VersionsOk_wj5000007 (u0 : (List dVersion)) (u1 : Bool) (u2 : Int) (u3 : ByteArray) (u4 : ByteArray) (u5 : Bool) (u6 : Int) (k : (Bool ⊕ Unit) → Option Res) : Option Res :=
    bif (decide (u2 > (0 : Int))) then
      if 0 ≤ (IntKind.wrap .i64 (u2 - (1 : Int))) ∧ (IntKind.wrap .i64 (u2 - (1 : Int))) < (u0.length : Int) then
        bif (!((strLess ((rd (Ty.zero tVersion) u0 (IntKind.wrap .i64 (u2 - (1 : Int)))).1) u3) || (strEq ((rd (Ty.zero tVersion) u0 (IntKind.wrap .i64 (u2 - (1 : Int)))).1) u3))) then
          k (.inl false)
        else
          if 0 ≤ (IntKind.wrap .i64 (u2 - (1 : Int))) ∧ (IntKind.wrap .i64 (u2 - (1 : Int))) < (u0.length : Int) then
            bif (strEq ((rd (Ty.zero tVersion) u0 (IntKind.wrap .i64 (u2 - (1 : Int)))).1) u3) then
              if 0 ≤ (IntKind.wrap .i64 (u2 - (1 : Int))) ∧ (IntKind.wrap .i64 (u2 - (1 : Int))) < (u0.length : Int) then
                bif (decide ((rd (Ty.zero tVersion) u0 (IntKind.wrap .i64 (u2 - (1 : Int)))).2.2.2 ≥ u6)) then
                  k (.inl false)
                else
                  k (.inr ())
              else none
            else
              k (.inr ())
          else none
      else none
    else
      k (.inr ())

theorem spec_VersionsOk_wz5000007 {u0 : (List dVersion)} {u1 : Bool} {u2 : Int} {u3 : ByteArray} {u4 : ByteArray} {u5 : Bool} {u6 : Int}  {K : (((List dVersion) × Bool × Int × ByteArray × ByteArray × Bool × Int) ⊕ ((List dVersion) × Bool × Int × ByteArray × ByteArray × Bool × Int)) → Option Res} : spec_VersionsOk_j5000007 (u0, u1, u2, u3, u4, u5, u6) K = spec_VersionsOk_wj5000007 u0 u1 u2 u3 u4 u5 u6 (Sum.elim (fun z => K (.inl (u0, z, u2, u3, u4, u5, u6))) (fun _ => K (.inr (u0, u1, u2, u3, u4, u5, u6)))) := by
  simp only [spec_VersionsOk_j5000007, spec_VersionsOk_wj5000007, Sum.elim_inl, Sum.elim_inr]

def spec_VersionsOk_w0 (u0 : (List dVersion)) (u1 : Bool) : List dVersion → Nat → (((Bool × Int) ⊕ Int) → Option Res) → Option Res
  | [], i, k =>
    k (.inr (i : Int))
  | y :: l, i, k =>
    spec_KeyOk_k y.1 (fun y1 =>
      bif (!y1) then
        k (.inl (false, (i : Int)))
      else
        bif (decide ((y.2.1.size : Int) > (12 : Int))) then
          k (.inl (false, (i : Int)))
        else
          bif y.2.2.1 then
            bif (!(strEq (y.2.1) (⟨#[]⟩ : ByteArray))) then
              k (.inl (false, (i : Int)))
            else
              spec_l01In_k y.2.2.2 (1 : Int) (9999 : Int) (fun y2 =>
                bif (!y2) then
                  k (.inl (false, (i : Int)))
                else
                  spec_VersionsOk_wj5000007 u0 u1 (i : Int) y.1 y.2.1 y.2.2.1 y.2.2.2 (Sum.elim (fun z3 =>
                    k (.inl (z3, (i : Int)))) (fun _ =>
                    spec_VersionsOk_w0 u0 u1 l (i + 1) k)))
          else
            spec_l01In_k y.2.2.2 (1 : Int) (9999 : Int) (fun y5 =>
              bif (!y5) then
                k (.inl (false, (i : Int)))
              else
                spec_VersionsOk_wj5000007 u0 u1 (i : Int) y.1 y.2.1 y.2.2.1 y.2.2.2 (Sum.elim (fun z6 =>
                  k (.inl (z6, (i : Int)))) (fun _ =>
                  spec_VersionsOk_w0 u0 u1 l (i + 1) k))))

theorem spec_VersionsOk_lw0 {u0 : (List dVersion)} {u1 : Bool} (h0 : u0.length < 9223372036854775807) {K : (((List dVersion) × Bool × Int) ⊕ ((List dVersion) × Bool × Int)) → Option Res} : ∀ (l : List dVersion) (i : Nat)  (n : Nat), u0.drop i = l → l.length < n → loopK spec_VersionsOk_b0 n (u0, u1, (i : Int)) K = spec_VersionsOk_w0 u0 u1 l  i (Sum.elim (fun z => K (.inl (u0, z.1, z.2))) (fun z => K (.inr (u0, u1, z)))) := by
  intro l
  induction l with
  | nil =>
    intro i  n hd hn
    have hge := lwl_nil hd
    cases n with
    | zero => exact absurd hn (Nat.not_lt_zero _)
    | succ n => simp only [loopK, spec_VersionsOk_b0, spec_VersionsOk_w0, hge, decide_false, cond_false, Sum.elim_inr, Sum.elim_inl, spec_VersionsOk_wz5000007]
  | cons y l ih =>
    intro i  n hd hn
    obtain ⟨hlt, hz, hd2, hw, hnn⟩ := lwl_cons hd h0
    have hy := lwl_get hd
    cases n with
    | zero => exact absurd hn (Nat.not_lt_zero _)
    | succ n =>
      have ih2 := ih (i + 1)  n hd2 (Nat.lt_of_succ_lt_succ hn)
      simp only [loopK, spec_VersionsOk_b0, spec_VersionsOk_w0, hlt, hz, decide_true, cond_true, and_self, if_true, hy, hw, hnn, Sum.elim_inl, Sum.elim_inr, ih2, spec_VersionsOk_wz5000007]

theorem spec_VersionsOk_lz0 {u0 : (List dVersion)} {u1 : Bool} (h0 : u0.length < 9223372036854775807) {K : (((List dVersion) × Bool × Int) ⊕ ((List dVersion) × Bool × Int)) → Option Res}  : loopK spec_VersionsOk_b0 Fuel (u0, u1, (0 : Int)) K = spec_VersionsOk_w0 u0 u1 u0  0 (Sum.elim (fun z => K (.inl (u0, z.1, z.2))) (fun z => K (.inr (u0, u1, z)))) :=
  spec_VersionsOk_lw0 h0 u0 0  Fuel rfl (lwl_fuel h0)

def spec_VersionsOk_t (a0 : (List dVersion)) (k : Bool → Option Res) : Option Res :=
  spec_VersionsOk_w0 a0 false a0  0 (Sum.elim (fun z9 =>
    k z9.1) (fun _ =>
    k (decide ((a0.length : Int) ≤ (120 : Int)))))

theorem spec_VersionsOk_r {a0 : (List dVersion)} (h0 : a0.length < 9223372036854775807) {k : Bool → Option Res} : spec_VersionsOk_k a0 k = spec_VersionsOk_t a0 k := by
  rw [spec_VersionsOk_e]
  simp only [spec_VersionsOk_d, spec_VersionsOk_t, (spec_VersionsOk_lz0 h0), Sum.elim_inl, Sum.elim_inr]

def spec_WritesOk_w0 (u0 : (List dWrite)) (u1 : Bool) : List dWrite → Nat → (((Bool × Int) ⊕ Int) → Option Res) → Option Res
  | [], i, k =>
    k (.inr (i : Int))
  | y :: l, i, k =>
    spec_WriteOk_k y (fun y1 =>
      bif (!y1) then
        k (.inl (false, (i : Int)))
      else
        bif (decide ((i : Int) > (0 : Int))) then
          if 0 ≤ (IntKind.wrap .i64 ((i : Int) - (1 : Int))) ∧ (IntKind.wrap .i64 ((i : Int) - (1 : Int))) < (u0.length : Int) then
            bif (!(strLess ((rd (Ty.zero tWrite) u0 (IntKind.wrap .i64 ((i : Int) - (1 : Int)))).1) (y.1))) then
              k (.inl (false, (i : Int)))
            else
              spec_WritesOk_w0 u0 u1 l (i + 1) k
          else none
        else
          spec_WritesOk_w0 u0 u1 l (i + 1) k)

theorem spec_WritesOk_lw0 {u0 : (List dWrite)} {u1 : Bool} (h0 : u0.length < 9223372036854775807) {K : (((List dWrite) × Bool × Int) ⊕ ((List dWrite) × Bool × Int)) → Option Res} : ∀ (l : List dWrite) (i : Nat)  (n : Nat), u0.drop i = l → l.length < n → loopK spec_WritesOk_b0 n (u0, u1, (i : Int)) K = spec_WritesOk_w0 u0 u1 l  i (Sum.elim (fun z => K (.inl (u0, z.1, z.2))) (fun z => K (.inr (u0, u1, z)))) := by
  intro l
  induction l with
  | nil =>
    intro i  n hd hn
    have hge := lwl_nil hd
    cases n with
    | zero => exact absurd hn (Nat.not_lt_zero _)
    | succ n => simp only [loopK, spec_WritesOk_b0, spec_WritesOk_w0, hge, decide_false, cond_false, Sum.elim_inr, Sum.elim_inl]
  | cons y l ih =>
    intro i  n hd hn
    obtain ⟨hlt, hz, hd2, hw, hnn⟩ := lwl_cons hd h0
    have hy := lwl_get hd
    cases n with
    | zero => exact absurd hn (Nat.not_lt_zero _)
    | succ n =>
      have ih2 := ih (i + 1)  n hd2 (Nat.lt_of_succ_lt_succ hn)
      simp only [loopK, spec_WritesOk_b0, spec_WritesOk_w0, hlt, hz, decide_true, cond_true, and_self, if_true, hy, hw, hnn, Sum.elim_inl, Sum.elim_inr, ih2]

theorem spec_WritesOk_lz0 {u0 : (List dWrite)} {u1 : Bool} (h0 : u0.length < 9223372036854775807) {K : (((List dWrite) × Bool × Int) ⊕ ((List dWrite) × Bool × Int)) → Option Res}  : loopK spec_WritesOk_b0 Fuel (u0, u1, (0 : Int)) K = spec_WritesOk_w0 u0 u1 u0  0 (Sum.elim (fun z => K (.inl (u0, z.1, z.2))) (fun z => K (.inr (u0, u1, z)))) :=
  spec_WritesOk_lw0 h0 u0 0  Fuel rfl (lwl_fuel h0)

def spec_WritesOk_t (a0 : (List dWrite)) (k : Bool → Option Res) : Option Res :=
  spec_WritesOk_w0 a0 false a0  0 (Sum.elim (fun z9 =>
    k z9.1) (fun _ =>
    k (decide ((a0.length : Int) ≤ (8 : Int)))))

theorem spec_WritesOk_r {a0 : (List dWrite)} (h0 : a0.length < 9223372036854775807) {k : Bool → Option Res} : spec_WritesOk_k a0 k = spec_WritesOk_t a0 k := by
  rw [spec_WritesOk_e]
  simp only [spec_WritesOk_d, spec_WritesOk_t, (spec_WritesOk_lz0 h0), Sum.elim_inl, Sum.elim_inr]

def spec_TxnOk_wj5000012 (u0 : Bool) (u1 : Int) (u2 : Int) (u3 : Int) (u4 : Int) (u5 : (List dRange)) (u6 : (List dWrite)) (u7 : Bool) (u8 : ByteArray) (k : Bool → Option Res) : Option Res :=
    bif (u2 != (1 : Int)) then
      k true
    else
      k (!u7)

theorem spec_TxnOk_wz5000012 {u0 : Bool} {u1 : Int} {u2 : Int} {u3 : Int} {u4 : Int} {u5 : (List dRange)} {u6 : (List dWrite)} {u7 : Bool} {u8 : ByteArray}  {K : (Bool × Int × Int × Int × Int × (List dRange) × (List dWrite) × Bool × ByteArray) → Option Res} : spec_TxnOk_j5000012 (u0, u1, u2, u3, u4, u5, u6, u7, u8) K = spec_TxnOk_wj5000012 u0 u1 u2 u3 u4 u5 u6 u7 u8 (fun z => K (z, u1, u2, u3, u4, u5, u6, u7, u8)) := by
  simp only [spec_TxnOk_j5000012, spec_TxnOk_wj5000012, Sum.elim_inl, Sum.elim_inr]

def spec_TxnOk_wj5000010 (u0 : Bool) (u1 : Int) (u2 : Int) (u3 : Int) (u4 : Int) (u5 : (List dRange)) (u6 : (List dWrite)) (u7 : Bool) (u8 : ByteArray) (k : Bool → Option Res) : Option Res :=
    bif (u2 == (2 : Int)) then
      spec_KeyOk_k u8 (fun y1 =>
        bif (!y1) then
          k false
        else
          bif (u2 != (2 : Int)) then
            bif (!(strEq u8 (⟨#[]⟩ : ByteArray))) then
              k false
            else
              spec_TxnOk_wj5000012 u0 u1 u2 u3 u4 u5 u6 u7 u8 (fun z2 =>
                k z2)
          else
            spec_TxnOk_wj5000012 u0 u1 u2 u3 u4 u5 u6 u7 u8 (fun z3 =>
              k z3))
    else
      bif (u2 != (2 : Int)) then
        bif (!(strEq u8 (⟨#[]⟩ : ByteArray))) then
          k false
        else
          spec_TxnOk_wj5000012 u0 u1 u2 u3 u4 u5 u6 u7 u8 (fun z4 =>
            k z4)
      else
        spec_TxnOk_wj5000012 u0 u1 u2 u3 u4 u5 u6 u7 u8 (fun z5 =>
          k z5)

theorem spec_TxnOk_wz5000010 {u0 : Bool} {u1 : Int} {u2 : Int} {u3 : Int} {u4 : Int} {u5 : (List dRange)} {u6 : (List dWrite)} {u7 : Bool} {u8 : ByteArray}  {K : (Bool × Int × Int × Int × Int × (List dRange) × (List dWrite) × Bool × ByteArray) → Option Res} : spec_TxnOk_j5000010 (u0, u1, u2, u3, u4, u5, u6, u7, u8) K = spec_TxnOk_wj5000010 u0 u1 u2 u3 u4 u5 u6 u7 u8 (fun z => K (z, u1, u2, u3, u4, u5, u6, u7, u8)) := by
  simp only [spec_TxnOk_j5000010, spec_TxnOk_wj5000010, spec_TxnOk_wz5000012, Sum.elim_inl, Sum.elim_inr]

def spec_TxnOk_w0 (u0 : Bool) (u2 : Int) (u3 : Int) (u4 : Int) (u5 : Int) (u6 : (List dRange)) (u7 : (List dWrite)) (u8 : Bool) (u9 : ByteArray) : List dRange → Nat → (((Bool × Int) ⊕ Int) → Option Res) → Option Res
  | [], i, k =>
    k (.inr (i : Int))
  | y :: l, i, k =>
    spec_RangeOk_k y (fun y1 =>
      bif (!y1) then
        k (.inl (false, (i : Int)))
      else
        spec_TxnOk_w0 u0 u2 u3 u4 u5 u6 u7 u8 u9 l (i + 1) k)

theorem spec_TxnOk_lw0 {u0 : Bool} {u2 : Int} {u3 : Int} {u4 : Int} {u5 : Int} {u6 : (List dRange)} {u7 : (List dWrite)} {u8 : Bool} {u9 : ByteArray} (h0 : u6.length < 9223372036854775807) {K : ((Bool × Int × Int × Int × Int × Int × (List dRange) × (List dWrite) × Bool × ByteArray) ⊕ (Bool × Int × Int × Int × Int × Int × (List dRange) × (List dWrite) × Bool × ByteArray)) → Option Res} : ∀ (l : List dRange) (i : Nat)  (n : Nat), u6.drop i = l → l.length < n → loopK spec_TxnOk_b0 n (u0, (i : Int), u2, u3, u4, u5, u6, u7, u8, u9) K = spec_TxnOk_w0 u0 u2 u3 u4 u5 u6 u7 u8 u9 l  i (Sum.elim (fun z => K (.inl (z.1, z.2, u2, u3, u4, u5, u6, u7, u8, u9))) (fun z => K (.inr (u0, z, u2, u3, u4, u5, u6, u7, u8, u9)))) := by
  intro l
  induction l with
  | nil =>
    intro i  n hd hn
    have hge := lwl_nil hd
    cases n with
    | zero => exact absurd hn (Nat.not_lt_zero _)
    | succ n => simp only [loopK, spec_TxnOk_b0, spec_TxnOk_w0, hge, decide_false, cond_false, Sum.elim_inr, Sum.elim_inl]
  | cons y l ih =>
    intro i  n hd hn
    obtain ⟨hlt, hz, hd2, hw, hnn⟩ := lwl_cons hd h0
    have hy := lwl_get hd
    cases n with
    | zero => exact absurd hn (Nat.not_lt_zero _)
    | succ n =>
      have ih2 := ih (i + 1)  n hd2 (Nat.lt_of_succ_lt_succ hn)
      simp only [loopK, spec_TxnOk_b0, spec_TxnOk_w0, hlt, hz, decide_true, cond_true, and_self, if_true, hy, hw, hnn, Sum.elim_inl, Sum.elim_inr, ih2]

theorem spec_TxnOk_lz0 {u0 : Bool} {u2 : Int} {u3 : Int} {u4 : Int} {u5 : Int} {u6 : (List dRange)} {u7 : (List dWrite)} {u8 : Bool} {u9 : ByteArray} (h0 : u6.length < 9223372036854775807) {K : ((Bool × Int × Int × Int × Int × Int × (List dRange) × (List dWrite) × Bool × ByteArray) ⊕ (Bool × Int × Int × Int × Int × Int × (List dRange) × (List dWrite) × Bool × ByteArray)) → Option Res}  : loopK spec_TxnOk_b0 Fuel (u0, (0 : Int), u2, u3, u4, u5, u6, u7, u8, u9) K = spec_TxnOk_w0 u0 u2 u3 u4 u5 u6 u7 u8 u9 u6  0 (Sum.elim (fun z => K (.inl (z.1, z.2, u2, u3, u4, u5, u6, u7, u8, u9))) (fun z => K (.inr (u0, z, u2, u3, u4, u5, u6, u7, u8, u9)))) :=
  spec_TxnOk_lw0 h0 u6 0  Fuel rfl (lwl_fuel h0)

def spec_TxnOk_wj5000003 (u0 : Bool) (u1 : Int) (u2 : Int) (u3 : Int) (u4 : Int) (u5 : (List dRange)) (u6 : (List dWrite)) (u7 : Bool) (u8 : ByteArray) (k : Bool → Option Res) : Option Res :=
    spec_TxnOk_w0 u0 u1 u2 u3 u4 u5 u6 u7 u8 u5  0 (Sum.elim (fun z1 =>
      k z1.1) (fun _ =>
      bif (u2 == (3 : Int)) then
        spec_l01In_k u4 (IntKind.wrap .i64 (u3 + (1 : Int))) (9999 : Int) (fun y3 =>
          bif (!y3) then
            k false
          else
            bif (u2 != (3 : Int)) then
              bif (u4 != (0 : Int)) then
                k false
              else
                spec_TxnOk_wj5000010 u0 u1 u2 u3 u4 u5 u6 u7 u8 (fun z4 =>
                  k z4)
            else
              spec_TxnOk_wj5000010 u0 u1 u2 u3 u4 u5 u6 u7 u8 (fun z5 =>
                k z5))
      else
        bif (u2 != (3 : Int)) then
          bif (u4 != (0 : Int)) then
            k false
          else
            spec_TxnOk_wj5000010 u0 u1 u2 u3 u4 u5 u6 u7 u8 (fun z6 =>
              k z6)
        else
          spec_TxnOk_wj5000010 u0 u1 u2 u3 u4 u5 u6 u7 u8 (fun z7 =>
            k z7)))

theorem spec_TxnOk_wz5000003 {u0 : Bool} {u1 : Int} {u2 : Int} {u3 : Int} {u4 : Int} {u5 : (List dRange)} {u6 : (List dWrite)} {u7 : Bool} {u8 : ByteArray} (h0 : u5.length < 9223372036854775807) {K : (Bool × Int × Int × Int × Int × (List dRange) × (List dWrite) × Bool × ByteArray) → Option Res} : spec_TxnOk_j5000003 (u0, u1, u2, u3, u4, u5, u6, u7, u8) K = spec_TxnOk_wj5000003 u0 u1 u2 u3 u4 u5 u6 u7 u8 (fun z => K (z, u1, u2, u3, u4, u5, u6, u7, u8)) := by
  simp only [spec_TxnOk_j5000003, spec_TxnOk_wj5000003, spec_TxnOk_wz5000010, (spec_TxnOk_lz0 h0), Sum.elim_inl, Sum.elim_inr]

def spec_TxnOk_t (a0 : dTxn) (k : Bool → Option Res) : Option Res :=
  spec_l01In_k a0.1 (1 : Int) (9999 : Int) (fun y9 =>
    bif (!y9) then
      k false
    else
      spec_l01In_k a0.2.1 (1 : Int) (3 : Int) (fun y10 =>
        bif (!y10) then
          k false
        else
          spec_l01In_k a0.2.2.1 (0 : Int) (9999 : Int) (fun y11 =>
            bif (!y11) then
              k false
            else
              bif (decide ((a0.2.2.2.2.1.length : Int) > (8 : Int))) then
                k false
              else
                spec_WritesOk_k a0.2.2.2.2.2.1 (fun y12 =>
                  bif (!y12) then
                    k false
                  else
                    spec_TxnOk_wj5000003 false a0.1 a0.2.1 a0.2.2.1 a0.2.2.2.1 a0.2.2.2.2.1 a0.2.2.2.2.2.1 a0.2.2.2.2.2.2.1 a0.2.2.2.2.2.2.2 (fun z13 =>
                      k z13)))))

theorem spec_TxnOk_r {a0 : dTxn} (h0 : a0.2.2.2.2.1.length < 9223372036854775807) {k : Bool → Option Res} : spec_TxnOk_k a0 k = spec_TxnOk_t a0 k := by
  rw [spec_TxnOk_e]
  simp only [spec_TxnOk_d, spec_TxnOk_t, (spec_TxnOk_wz5000003 h0), Sum.elim_inl, Sum.elim_inr]

def spec_BaseOk_w0 (u0 : Bool) (u2 : (List dVersion)) (u3 : (List dTxn)) (u4 : (List dTxn)) (u5 : Int) (u6 : Int) : List dVersion → Nat → (((Bool × Int) ⊕ Int) → Option Res) → Option Res
  | [], i, k =>
    k (.inr (i : Int))
  | y :: l, i, k =>
    bif (decide (y.2.2.2 > u5)) then
      k (.inl (false, (i : Int)))
    else
      spec_BaseOk_w0 u0 u2 u3 u4 u5 u6 l (i + 1) k

theorem spec_BaseOk_lw0 {u0 : Bool} {u2 : (List dVersion)} {u3 : (List dTxn)} {u4 : (List dTxn)} {u5 : Int} {u6 : Int} (h0 : u2.length < 9223372036854775807) {K : ((Bool × Int × (List dVersion) × (List dTxn) × (List dTxn) × Int × Int) ⊕ (Bool × Int × (List dVersion) × (List dTxn) × (List dTxn) × Int × Int)) → Option Res} : ∀ (l : List dVersion) (i : Nat)  (n : Nat), u2.drop i = l → l.length < n → loopK spec_BaseOk_b0 n (u0, (i : Int), u2, u3, u4, u5, u6) K = spec_BaseOk_w0 u0 u2 u3 u4 u5 u6 l  i (Sum.elim (fun z => K (.inl (z.1, z.2, u2, u3, u4, u5, u6))) (fun z => K (.inr (u0, z, u2, u3, u4, u5, u6)))) := by
  intro l
  induction l with
  | nil =>
    intro i  n hd hn
    have hge := lwl_nil hd
    cases n with
    | zero => exact absurd hn (Nat.not_lt_zero _)
    | succ n => simp only [loopK, spec_BaseOk_b0, spec_BaseOk_w0, hge, decide_false, cond_false, Sum.elim_inr, Sum.elim_inl]
  | cons y l ih =>
    intro i  n hd hn
    obtain ⟨hlt, hz, hd2, hw, hnn⟩ := lwl_cons hd h0
    have hy := lwl_get hd
    cases n with
    | zero => exact absurd hn (Nat.not_lt_zero _)
    | succ n =>
      have ih2 := ih (i + 1)  n hd2 (Nat.lt_of_succ_lt_succ hn)
      simp only [loopK, spec_BaseOk_b0, spec_BaseOk_w0, hlt, hz, decide_true, cond_true, and_self, if_true, hy, hw, hnn, Sum.elim_inl, Sum.elim_inr, ih2]

theorem spec_BaseOk_lz0 {u0 : Bool} {u2 : (List dVersion)} {u3 : (List dTxn)} {u4 : (List dTxn)} {u5 : Int} {u6 : Int} (h0 : u2.length < 9223372036854775807) {K : ((Bool × Int × (List dVersion) × (List dTxn) × (List dTxn) × Int × Int) ⊕ (Bool × Int × (List dVersion) × (List dTxn) × (List dTxn) × Int × Int)) → Option Res}  : loopK spec_BaseOk_b0 Fuel (u0, (0 : Int), u2, u3, u4, u5, u6) K = spec_BaseOk_w0 u0 u2 u3 u4 u5 u6 u2  0 (Sum.elim (fun z => K (.inl (z.1, z.2, u2, u3, u4, u5, u6))) (fun z => K (.inr (u0, z, u2, u3, u4, u5, u6)))) :=
  spec_BaseOk_lw0 h0 u2 0  Fuel rfl (lwl_fuel h0)

def spec_BaseOk_w2 (u0 : Bool) (u2 : (List dVersion)) (u3 : (List dTxn)) (u4 : (List dTxn)) (u5 : Int) (u6 : Int) : List dTxn → (List Int) → Nat → (((Bool × Int × (List Int)) ⊕ (Int × (List Int))) → Option Res) → Option Res
  | [], s7, i, k =>
    k (.inr ((i : Int), s7))
  | y :: l, s7, i, k =>
    spec_TxnOk_k y (fun y1 =>
      bif (!y1) then
        k (.inl (false, (i : Int), s7))
      else
        bif (y.2.1 != (3 : Int)) then
          k (.inl (false, (i : Int), s7))
        else
          bif (decide (y.2.2.2.1 > u5)) then
            k (.inl (false, (i : Int), s7))
          else
            bif (decide ((i : Int) > (0 : Int))) then
              if 0 ≤ (IntKind.wrap .i64 ((i : Int) - (1 : Int))) ∧ (IntKind.wrap .i64 ((i : Int) - (1 : Int))) < (u3.length : Int) then
                bif (decide ((rd (Ty.zero tTxn) u3 (IntKind.wrap .i64 ((i : Int) - (1 : Int)))).2.2.2.1 ≥ y.2.2.2.1)) then
                  k (.inl (false, (i : Int), s7))
                else
                  if s7.length + [y.1].length ≤ VE.maxLen then
                    spec_BaseOk_w2 u0 u2 u3 u4 u5 u6 l (s7 ++ [y.1]) (i + 1) k
                  else none
              else none
            else
              if s7.length + [y.1].length ≤ VE.maxLen then
                spec_BaseOk_w2 u0 u2 u3 u4 u5 u6 l (s7 ++ [y.1]) (i + 1) k
              else none)

theorem spec_BaseOk_lw2 {u0 : Bool} {u2 : (List dVersion)} {u3 : (List dTxn)} {u4 : (List dTxn)} {u5 : Int} {u6 : Int} (h0 : u3.length < 9223372036854775807) {K : ((Bool × Int × (List dVersion) × (List dTxn) × (List dTxn) × Int × Int × (List Int)) ⊕ (Bool × Int × (List dVersion) × (List dTxn) × (List dTxn) × Int × Int × (List Int))) → Option Res} : ∀ (l : List dTxn) (i : Nat) (s7 : (List Int)) (n : Nat), u3.drop i = l → l.length < n → loopK spec_BaseOk_b2 n (u0, (i : Int), u2, u3, u4, u5, u6, s7) K = spec_BaseOk_w2 u0 u2 u3 u4 u5 u6 l s7 i (Sum.elim (fun z => K (.inl (z.1, z.2.1, u2, u3, u4, u5, u6, z.2.2))) (fun z => K (.inr (u0, z.1, u2, u3, u4, u5, u6, z.2)))) := by
  intro l
  induction l with
  | nil =>
    intro i s7 n hd hn
    have hge := lwl_nil hd
    cases n with
    | zero => exact absurd hn (Nat.not_lt_zero _)
    | succ n => simp only [loopK, spec_BaseOk_b2, spec_BaseOk_w2, hge, decide_false, cond_false, Sum.elim_inr, Sum.elim_inl]
  | cons y l ih =>
    intro i s7 n hd hn
    obtain ⟨hlt, hz, hd2, hw, hnn⟩ := lwl_cons hd h0
    have hy := lwl_get hd
    cases n with
    | zero => exact absurd hn (Nat.not_lt_zero _)
    | succ n =>
      have ih2 := fun (s7 : (List Int)) => ih (i + 1) s7 n hd2 (Nat.lt_of_succ_lt_succ hn)
      simp only [loopK, spec_BaseOk_b2, spec_BaseOk_w2, hlt, hz, decide_true, cond_true, and_self, if_true, hy, hw, hnn, Sum.elim_inl, Sum.elim_inr, ih2]

theorem spec_BaseOk_lz2 {u0 : Bool} {u2 : (List dVersion)} {u3 : (List dTxn)} {u4 : (List dTxn)} {u5 : Int} {u6 : Int} (h0 : u3.length < 9223372036854775807) {K : ((Bool × Int × (List dVersion) × (List dTxn) × (List dTxn) × Int × Int × (List Int)) ⊕ (Bool × Int × (List dVersion) × (List dTxn) × (List dTxn) × Int × Int × (List Int))) → Option Res} {s7 : (List Int)} : loopK spec_BaseOk_b2 Fuel (u0, (0 : Int), u2, u3, u4, u5, u6, s7) K = spec_BaseOk_w2 u0 u2 u3 u4 u5 u6 u3 s7 0 (Sum.elim (fun z => K (.inl (z.1, z.2.1, u2, u3, u4, u5, u6, z.2.2))) (fun z => K (.inr (u0, z.1, u2, u3, u4, u5, u6, z.2)))) :=
  spec_BaseOk_lw2 h0 u3 0 s7 Fuel rfl (lwl_fuel h0)

def spec_BaseOk_w4 (u0 : Bool) (u2 : (List dVersion)) (u3 : (List dTxn)) (u4 : (List dTxn)) (u5 : Int) (u6 : Int) : List dTxn → (List Int) → Nat → (((Bool × Int × (List Int)) ⊕ (Int × (List Int))) → Option Res) → Option Res
  | [], s7, i, k =>
    k (.inr ((i : Int), s7))
  | y :: l, s7, i, k =>
    spec_TxnOk_k y (fun y1 =>
      bif (!y1) then
        k (.inl (false, (i : Int), s7))
      else
        bif (y.2.1 != (2 : Int)) then
          k (.inl (false, (i : Int), s7))
        else
          bif (decide (y.2.2.1 > u5)) then
            k (.inl (false, (i : Int), s7))
          else
            bif (decide ((i : Int) > (0 : Int))) then
              if 0 ≤ (IntKind.wrap .i64 ((i : Int) - (1 : Int))) ∧ (IntKind.wrap .i64 ((i : Int) - (1 : Int))) < (u4.length : Int) then
                bif (!(strLess ((rd (Ty.zero tTxn) u4 (IntKind.wrap .i64 ((i : Int) - (1 : Int)))).2.2.2.2.2.2.2) (y.2.2.2.2.2.2.2))) then
                  k (.inl (false, (i : Int), s7))
                else
                  if s7.length + [y.1].length ≤ VE.maxLen then
                    spec_BaseOk_w4 u0 u2 u3 u4 u5 u6 l (s7 ++ [y.1]) (i + 1) k
                  else none
              else none
            else
              if s7.length + [y.1].length ≤ VE.maxLen then
                spec_BaseOk_w4 u0 u2 u3 u4 u5 u6 l (s7 ++ [y.1]) (i + 1) k
              else none)

theorem spec_BaseOk_lw4 {u0 : Bool} {u2 : (List dVersion)} {u3 : (List dTxn)} {u4 : (List dTxn)} {u5 : Int} {u6 : Int} (h0 : u4.length < 9223372036854775807) {K : ((Bool × Int × (List dVersion) × (List dTxn) × (List dTxn) × Int × Int × (List Int)) ⊕ (Bool × Int × (List dVersion) × (List dTxn) × (List dTxn) × Int × Int × (List Int))) → Option Res} : ∀ (l : List dTxn) (i : Nat) (s7 : (List Int)) (n : Nat), u4.drop i = l → l.length < n → loopK spec_BaseOk_b4 n (u0, (i : Int), u2, u3, u4, u5, u6, s7) K = spec_BaseOk_w4 u0 u2 u3 u4 u5 u6 l s7 i (Sum.elim (fun z => K (.inl (z.1, z.2.1, u2, u3, u4, u5, u6, z.2.2))) (fun z => K (.inr (u0, z.1, u2, u3, u4, u5, u6, z.2)))) := by
  intro l
  induction l with
  | nil =>
    intro i s7 n hd hn
    have hge := lwl_nil hd
    cases n with
    | zero => exact absurd hn (Nat.not_lt_zero _)
    | succ n => simp only [loopK, spec_BaseOk_b4, spec_BaseOk_w4, hge, decide_false, cond_false, Sum.elim_inr, Sum.elim_inl]
  | cons y l ih =>
    intro i s7 n hd hn
    obtain ⟨hlt, hz, hd2, hw, hnn⟩ := lwl_cons hd h0
    have hy := lwl_get hd
    cases n with
    | zero => exact absurd hn (Nat.not_lt_zero _)
    | succ n =>
      have ih2 := fun (s7 : (List Int)) => ih (i + 1) s7 n hd2 (Nat.lt_of_succ_lt_succ hn)
      simp only [loopK, spec_BaseOk_b4, spec_BaseOk_w4, hlt, hz, decide_true, cond_true, and_self, if_true, hy, hw, hnn, Sum.elim_inl, Sum.elim_inr, ih2]

theorem spec_BaseOk_lz4 {u0 : Bool} {u2 : (List dVersion)} {u3 : (List dTxn)} {u4 : (List dTxn)} {u5 : Int} {u6 : Int} (h0 : u4.length < 9223372036854775807) {K : ((Bool × Int × (List dVersion) × (List dTxn) × (List dTxn) × Int × Int × (List Int)) ⊕ (Bool × Int × (List dVersion) × (List dTxn) × (List dTxn) × Int × Int × (List Int))) → Option Res} {s7 : (List Int)} : loopK spec_BaseOk_b4 Fuel (u0, (0 : Int), u2, u3, u4, u5, u6, s7) K = spec_BaseOk_w4 u0 u2 u3 u4 u5 u6 u4 s7 0 (Sum.elim (fun z => K (.inl (z.1, z.2.1, u2, u3, u4, u5, u6, z.2.2))) (fun z => K (.inr (u0, z.1, u2, u3, u4, u5, u6, z.2)))) :=
  spec_BaseOk_lw4 h0 u4 0 s7 Fuel rfl (lwl_fuel h0)

def spec_BaseOk_w8 (u0 : Bool) (u3 : (List dVersion)) (u4 : (List dTxn)) (u5 : (List dTxn)) (u6 : Int) (u7 : Int) (u8 : (List Int)) : List Int → Nat → (((Bool × Int) ⊕ Int) → Option Res) → Option Res
  | [], i, k =>
    k (.inr (i : Int))
  | y :: l, i, k =>
    if 0 ≤ (u8.length : Int) ∧ (u8.length : Int) < (u8.length : Int) then
      bif (y == (u8.getD (u8.length : Int).toNat (Ty.zero (.int .i64)))) then
        k (.inl (false, (i : Int)))
      else
        spec_BaseOk_w8 u0 u3 u4 u5 u6 u7 u8 l (i + 1) k
    else none

theorem spec_BaseOk_lw8 {u0 : Bool} {u3 : (List dVersion)} {u4 : (List dTxn)} {u5 : (List dTxn)} {u6 : Int} {u7 : Int} {u8 : (List Int)} (h0 : u8.length < 9223372036854775807) {K : ((Bool × Int × Int × (List dVersion) × (List dTxn) × (List dTxn) × Int × Int × (List Int)) ⊕ (Bool × Int × Int × (List dVersion) × (List dTxn) × (List dTxn) × Int × Int × (List Int))) → Option Res} : ∀ (l : List Int) (i : Nat)  (n : Nat), u8.drop i = l → l.length < n → loopK spec_BaseOk_b8 n (u0, (u8.length : Int), (i : Int), u3, u4, u5, u6, u7, u8) K = spec_BaseOk_w8 u0 u3 u4 u5 u6 u7 u8 l  i (Sum.elim (fun z => K (.inl (z.1, (u8.length : Int), z.2, u3, u4, u5, u6, u7, u8))) (fun z => K (.inr (u0, (u8.length : Int), z, u3, u4, u5, u6, u7, u8)))) := by
  intro l
  induction l with
  | nil =>
    intro i  n hd hn
    have hge := lwl_nil hd
    cases n with
    | zero => exact absurd hn (Nat.not_lt_zero _)
    | succ n => simp only [loopK, spec_BaseOk_b8, spec_BaseOk_w8, hge, decide_false, cond_false, Sum.elim_inr, Sum.elim_inl]
  | cons y l ih =>
    intro i  n hd hn
    obtain ⟨hlt, hz, hd2, hw, hnn⟩ := lwl_cons hd h0
    have hy := lwl_get hd
    cases n with
    | zero => exact absurd hn (Nat.not_lt_zero _)
    | succ n =>
      have ih2 := ih (i + 1)  n hd2 (Nat.lt_of_succ_lt_succ hn)
      simp only [loopK, spec_BaseOk_b8, spec_BaseOk_w8, hlt, hz, decide_true, cond_true, and_self, if_true, hy, hw, hnn, Sum.elim_inl, Sum.elim_inr, ih2]

theorem spec_BaseOk_lz8 {u0 : Bool} {u3 : (List dVersion)} {u4 : (List dTxn)} {u5 : (List dTxn)} {u6 : Int} {u7 : Int} {u8 : (List Int)} (h0 : u8.length < 9223372036854775807) {K : ((Bool × Int × Int × (List dVersion) × (List dTxn) × (List dTxn) × Int × Int × (List Int)) ⊕ (Bool × Int × Int × (List dVersion) × (List dTxn) × (List dTxn) × Int × Int × (List Int))) → Option Res}  : loopK spec_BaseOk_b8 Fuel (u0, (u8.length : Int), (0 : Int), u3, u4, u5, u6, u7, u8) K = spec_BaseOk_w8 u0 u3 u4 u5 u6 u7 u8 u8  0 (Sum.elim (fun z => K (.inl (z.1, (u8.length : Int), z.2, u3, u4, u5, u6, u7, u8))) (fun z => K (.inr (u0, (u8.length : Int), z, u3, u4, u5, u6, u7, u8)))) :=
  spec_BaseOk_lw8 h0 u8 0  Fuel rfl (lwl_fuel h0)

def spec_BaseOk_wj5000003 (u0 : Bool) (u1 : (List dVersion)) (u2 : (List dTxn)) (u3 : (List dTxn)) (u4 : Int) (u5 : Int) (k : (Bool × (List dVersion) × (List dTxn) × (List dTxn) × Int × Int) → Option Res) : Option Res :=
    spec_BaseOk_w0 u0 u1 u2 u3 u4 u5 u1  0 (Sum.elim (fun z1 =>
      k (z1.1, u1, u2, u3, u4, u5)) (fun _ =>
      spec_BaseOk_w2 u0 u1 u2 u3 u4 u5 u2 ([] : List Int) 0 (Sum.elim (fun z3 =>
        k (z3.1, u1, u2, u3, u4, u5)) (fun z4 =>
        spec_BaseOk_w4 u0 u1 u2 u3 u4 u5 u3 z4.2 0 (Sum.elim (fun z5 =>
          k (z5.1, u1, u2, u3, u4, u5)) (fun z6 =>
          loopK spec_BaseOk_b6 Fuel (u0, (0 : Int), u1, u2, u3, u4, u5, z6.2) (Sum.elim (fun z7 =>
            k (true, z7.2.2.1, z7.2.2.2.1, z7.2.2.2.2.1, z7.2.2.2.2.2.1, z7.2.2.2.2.2.2.1)) (fun z8 =>
            k (z8.1, z8.2.2.1, z8.2.2.2.1, z8.2.2.2.2.1, z8.2.2.2.2.2.1, z8.2.2.2.2.2.2.1)))))))))

theorem spec_BaseOk_wz5000003 {u0 : Bool} {u1 : (List dVersion)} {u2 : (List dTxn)} {u3 : (List dTxn)} {u4 : Int} {u5 : Int} (h0 : u3.length < 9223372036854775807) (h1 : u2.length < 9223372036854775807) (h2 : u1.length < 9223372036854775807) {K : (Bool × (List dVersion) × (List dTxn) × (List dTxn) × Int × Int) → Option Res} : spec_BaseOk_j5000003 (u0, u1, u2, u3, u4, u5) K = spec_BaseOk_wj5000003 u0 u1 u2 u3 u4 u5 (fun z => K (z.1, z.2.1, z.2.2.1, z.2.2.2.1, z.2.2.2.2.1, z.2.2.2.2.2)) := by
  simp only [spec_BaseOk_j5000003, spec_BaseOk_wj5000003, (spec_BaseOk_lz4 h0), (spec_BaseOk_lz2 h1), (spec_BaseOk_lz0 h2), Sum.elim_inl, Sum.elim_inr]

def spec_BaseOk_t (a0 : dBase) (k : Bool → Option Res) : Option Res :=
  spec_VersionsOk_k a0.1 (fun y9 =>
    bif (!y9) then
      k false
    else
      bif (decide ((a0.2.1.length : Int) > (12 : Int))) then
        k false
      else
        bif (decide ((a0.2.2.1.length : Int) > (3 : Int))) then
          k false
        else
          spec_l01In_k a0.2.2.2.1 (0 : Int) (9999 : Int) (fun y10 =>
            bif (!y10) then
              k false
            else
              spec_l01In_k a0.2.2.2.2 (1 : Int) (9999 : Int) (fun y11 =>
                bif (!y11) then
                  k false
                else
                  spec_BaseOk_wj5000003 false a0.1 a0.2.1 a0.2.2.1 a0.2.2.2.1 a0.2.2.2.2 (fun z12 =>
                    k z12.1))))

theorem spec_BaseOk_r {a0 : dBase} (h0 : a0.2.2.1.length < 9223372036854775807) (h1 : a0.2.1.length < 9223372036854775807) (h2 : a0.1.length < 9223372036854775807) {k : Bool → Option Res} : spec_BaseOk_k a0 k = spec_BaseOk_t a0 k := by
  rw [spec_BaseOk_e]
  simp only [spec_BaseOk_d, spec_BaseOk_t, (spec_BaseOk_wz5000003 h0 h1 h2), Sum.elim_inl, Sum.elim_inr]

def spec_l01Var_t (a0 : Int) (k : ByteArray → Option Res) : Option Res :=
  loopK spec_l01Var_b0 Fuel (a0, ([] : List Int)) (fun z9 =>
    if z9.2.length + [(IntKind.wrap .u8 z9.1)].length ≤ VE.maxLen then
      k (bytesOf (z9.2 ++ [(IntKind.wrap .u8 z9.1)]))
    else none)

theorem spec_l01Var_r {a0 : Int}  {k : ByteArray → Option Res} : spec_l01Var_k a0 k = spec_l01Var_t a0 k := by
  rw [spec_l01Var_e]
  simp only [spec_l01Var_d, spec_l01Var_t, Sum.elim_inl, Sum.elim_inr]

def spec_TxnText_w0 (u2 : Int) (u3 : Int) (u4 : Int) (u5 : Int) (u6 : (List dRange)) (u7 : (List dWrite)) (u8 : Bool) (u9 : ByteArray) : List dRange → ByteArray → Nat → ((ByteArray × Int) → Option Res) → Option Res
  | [], s0, i, k =>
    k (s0, (i : Int))
  | y :: l, s0, i, k =>
    spec_l07Short_k y.1 (fun y1 =>
      if s0.size + y1.size ≤ 1099511627776 then
        spec_l07Short_k y.2 (fun y2 =>
          if (s0 ++ y1).size + y2.size ≤ 1099511627776 then
            spec_TxnText_w0 u2 u3 u4 u5 u6 u7 u8 u9 l ((s0 ++ y1) ++ y2) (i + 1) k
          else none)
      else none)

theorem spec_TxnText_lw0 {u2 : Int} {u3 : Int} {u4 : Int} {u5 : Int} {u6 : (List dRange)} {u7 : (List dWrite)} {u8 : Bool} {u9 : ByteArray} (h0 : u6.length < 9223372036854775807) {K : (ByteArray × Int × Int × Int × Int × Int × (List dRange) × (List dWrite) × Bool × ByteArray) → Option Res} : ∀ (l : List dRange) (i : Nat) (s0 : ByteArray) (n : Nat), u6.drop i = l → l.length < n → loopK spec_TxnText_b0 n (s0, (i : Int), u2, u3, u4, u5, u6, u7, u8, u9) K = spec_TxnText_w0 u2 u3 u4 u5 u6 u7 u8 u9 l s0 i (fun z => K (z.1, z.2, u2, u3, u4, u5, u6, u7, u8, u9)) := by
  intro l
  induction l with
  | nil =>
    intro i s0 n hd hn
    have hge := lwl_nil hd
    cases n with
    | zero => exact absurd hn (Nat.not_lt_zero _)
    | succ n => simp only [loopK, spec_TxnText_b0, spec_TxnText_w0, hge, decide_false, cond_false, Sum.elim_inr, Sum.elim_inl]
  | cons y l ih =>
    intro i s0 n hd hn
    obtain ⟨hlt, hz, hd2, hw, hnn⟩ := lwl_cons hd h0
    have hy := lwl_get hd
    cases n with
    | zero => exact absurd hn (Nat.not_lt_zero _)
    | succ n =>
      have ih2 := fun (s0 : ByteArray) => ih (i + 1) s0 n hd2 (Nat.lt_of_succ_lt_succ hn)
      simp only [loopK, spec_TxnText_b0, spec_TxnText_w0, hlt, hz, decide_true, cond_true, and_self, if_true, hy, hw, hnn, Sum.elim_inl, Sum.elim_inr, ih2]

theorem spec_TxnText_lz0 {u2 : Int} {u3 : Int} {u4 : Int} {u5 : Int} {u6 : (List dRange)} {u7 : (List dWrite)} {u8 : Bool} {u9 : ByteArray} (h0 : u6.length < 9223372036854775807) {K : (ByteArray × Int × Int × Int × Int × Int × (List dRange) × (List dWrite) × Bool × ByteArray) → Option Res} {s0 : ByteArray} : loopK spec_TxnText_b0 Fuel (s0, (0 : Int), u2, u3, u4, u5, u6, u7, u8, u9) K = spec_TxnText_w0 u2 u3 u4 u5 u6 u7 u8 u9 u6 s0 0 (fun z => K (z.1, z.2, u2, u3, u4, u5, u6, u7, u8, u9)) :=
  spec_TxnText_lw0 h0 u6 0 s0 Fuel rfl (lwl_fuel h0)

def spec_TxnText_w2 (u2 : Int) (u3 : Int) (u4 : Int) (u5 : Int) (u6 : (List dRange)) (u7 : (List dWrite)) (u8 : Bool) (u9 : ByteArray) : List dWrite → ByteArray → Nat → ((ByteArray × Int) → Option Res) → Option Res
  | [], s0, i, k =>
    k (s0, (i : Int))
  | y :: l, s0, i, k =>
    spec_l07Short_k y.1 (fun y1 =>
      if s0.size + y1.size ≤ 1099511627776 then
        spec_l07Short_k y.2.1 (fun y2 =>
          if (s0 ++ y1).size + y2.size ≤ 1099511627776 then
            spec_l07Bit_k y.2.2 (fun y3 =>
              if ((s0 ++ y1) ++ y2).size + y3.size ≤ 1099511627776 then
                spec_TxnText_w2 u2 u3 u4 u5 u6 u7 u8 u9 l (((s0 ++ y1) ++ y2) ++ y3) (i + 1) k
              else none)
          else none)
      else none)

theorem spec_TxnText_lw2 {u2 : Int} {u3 : Int} {u4 : Int} {u5 : Int} {u6 : (List dRange)} {u7 : (List dWrite)} {u8 : Bool} {u9 : ByteArray} (h0 : u7.length < 9223372036854775807) {K : (ByteArray × Int × Int × Int × Int × Int × (List dRange) × (List dWrite) × Bool × ByteArray) → Option Res} : ∀ (l : List dWrite) (i : Nat) (s0 : ByteArray) (n : Nat), u7.drop i = l → l.length < n → loopK spec_TxnText_b2 n (s0, (i : Int), u2, u3, u4, u5, u6, u7, u8, u9) K = spec_TxnText_w2 u2 u3 u4 u5 u6 u7 u8 u9 l s0 i (fun z => K (z.1, z.2, u2, u3, u4, u5, u6, u7, u8, u9)) := by
  intro l
  induction l with
  | nil =>
    intro i s0 n hd hn
    have hge := lwl_nil hd
    cases n with
    | zero => exact absurd hn (Nat.not_lt_zero _)
    | succ n => simp only [loopK, spec_TxnText_b2, spec_TxnText_w2, hge, decide_false, cond_false, Sum.elim_inr, Sum.elim_inl]
  | cons y l ih =>
    intro i s0 n hd hn
    obtain ⟨hlt, hz, hd2, hw, hnn⟩ := lwl_cons hd h0
    have hy := lwl_get hd
    cases n with
    | zero => exact absurd hn (Nat.not_lt_zero _)
    | succ n =>
      have ih2 := fun (s0 : ByteArray) => ih (i + 1) s0 n hd2 (Nat.lt_of_succ_lt_succ hn)
      simp only [loopK, spec_TxnText_b2, spec_TxnText_w2, hlt, hz, decide_true, cond_true, and_self, if_true, hy, hw, hnn, Sum.elim_inl, Sum.elim_inr, ih2]

theorem spec_TxnText_lz2 {u2 : Int} {u3 : Int} {u4 : Int} {u5 : Int} {u6 : (List dRange)} {u7 : (List dWrite)} {u8 : Bool} {u9 : ByteArray} (h0 : u7.length < 9223372036854775807) {K : (ByteArray × Int × Int × Int × Int × Int × (List dRange) × (List dWrite) × Bool × ByteArray) → Option Res} {s0 : ByteArray} : loopK spec_TxnText_b2 Fuel (s0, (0 : Int), u2, u3, u4, u5, u6, u7, u8, u9) K = spec_TxnText_w2 u2 u3 u4 u5 u6 u7 u8 u9 u7 s0 0 (fun z => K (z.1, z.2, u2, u3, u4, u5, u6, u7, u8, u9)) :=
  spec_TxnText_lw2 h0 u7 0 s0 Fuel rfl (lwl_fuel h0)

def spec_TxnText_t (a0 : dTxn) (k : (ByteArray × Bool) → Option Res) : Option Res :=
  spec_TxnOk_k a0 (fun y9 =>
    bif (!y9) then
      k ((⟨#[]⟩ : ByteArray), false)
    else
      spec_l01Var_k a0.1 (fun y10 =>
        spec_l01Var_k a0.2.1 (fun y11 =>
          if y10.size + y11.size ≤ 1099511627776 then
            spec_l01Var_k a0.2.2.1 (fun y12 =>
              if (y10 ++ y11).size + y12.size ≤ 1099511627776 then
                spec_l01Var_k a0.2.2.2.1 (fun y13 =>
                  if ((y10 ++ y11) ++ y12).size + y13.size ≤ 1099511627776 then
                    spec_l01Var_k (a0.2.2.2.2.1.length : Int) (fun y14 =>
                      if (((y10 ++ y11) ++ y12) ++ y13).size + y14.size ≤ 1099511627776 then
                        spec_TxnText_w0 a0.1 a0.2.1 a0.2.2.1 a0.2.2.2.1 a0.2.2.2.2.1 a0.2.2.2.2.2.1 a0.2.2.2.2.2.2.1 a0.2.2.2.2.2.2.2 a0.2.2.2.2.1 ((((y10 ++ y11) ++ y12) ++ y13) ++ y14) 0 (fun z15 =>
                          spec_l01Var_k (a0.2.2.2.2.2.1.length : Int) (fun y16 =>
                            if z15.1.size + y16.size ≤ 1099511627776 then
                              spec_TxnText_w2 a0.1 a0.2.1 a0.2.2.1 a0.2.2.2.1 a0.2.2.2.2.1 a0.2.2.2.2.2.1 a0.2.2.2.2.2.2.1 a0.2.2.2.2.2.2.2 a0.2.2.2.2.2.1 (z15.1 ++ y16) 0 (fun z17 =>
                                spec_l07Bit_k a0.2.2.2.2.2.2.1 (fun y18 =>
                                  if z17.1.size + y18.size ≤ 1099511627776 then
                                    spec_l07Short_k a0.2.2.2.2.2.2.2 (fun y19 =>
                                      if (z17.1 ++ y18).size + y19.size ≤ 1099511627776 then
                                        k (((z17.1 ++ y18) ++ y19), true)
                                      else none)
                                  else none))
                            else none))
                      else none)
                  else none)
              else none)
          else none)))

theorem spec_TxnText_r {a0 : dTxn} (h0 : a0.2.2.2.2.2.1.length < 9223372036854775807) (h1 : a0.2.2.2.2.1.length < 9223372036854775807) {k : (ByteArray × Bool) → Option Res} : spec_TxnText_k a0 k = spec_TxnText_t a0 k := by
  rw [spec_TxnText_e]
  simp only [spec_TxnText_d, spec_TxnText_t, (spec_TxnText_lz2 h0), (spec_TxnText_lz0 h1), Sum.elim_inl, Sum.elim_inr]

def spec_l10Txns_w0 (u0 : (List dTxn)) : List dTxn → ByteArray → Nat → ((ByteArray × Int) → Option Res) → Option Res
  | [], s1, i, k =>
    k (s1, (i : Int))
  | y :: l, s1, i, k =>
    spec_TxnText_k y (fun y1 =>
      if s1.size + y1.1.size ≤ 1099511627776 then
        spec_l10Txns_w0 u0 l (s1 ++ y1.1) (i + 1) k
      else none)

theorem spec_l10Txns_lw0 {u0 : (List dTxn)} (h0 : u0.length < 9223372036854775807) {K : ((List dTxn) × ByteArray × Int) → Option Res} : ∀ (l : List dTxn) (i : Nat) (s1 : ByteArray) (n : Nat), u0.drop i = l → l.length < n → loopK spec_l10Txns_b0 n (u0, s1, (i : Int)) K = spec_l10Txns_w0 u0 l s1 i (fun z => K (u0, z.1, z.2)) := by
  intro l
  induction l with
  | nil =>
    intro i s1 n hd hn
    have hge := lwl_nil hd
    cases n with
    | zero => exact absurd hn (Nat.not_lt_zero _)
    | succ n => simp only [loopK, spec_l10Txns_b0, spec_l10Txns_w0, hge, decide_false, cond_false, Sum.elim_inr, Sum.elim_inl]
  | cons y l ih =>
    intro i s1 n hd hn
    obtain ⟨hlt, hz, hd2, hw, hnn⟩ := lwl_cons hd h0
    have hy := lwl_get hd
    cases n with
    | zero => exact absurd hn (Nat.not_lt_zero _)
    | succ n =>
      have ih2 := fun (s1 : ByteArray) => ih (i + 1) s1 n hd2 (Nat.lt_of_succ_lt_succ hn)
      simp only [loopK, spec_l10Txns_b0, spec_l10Txns_w0, hlt, hz, decide_true, cond_true, and_self, if_true, hy, hw, hnn, Sum.elim_inl, Sum.elim_inr, ih2]

theorem spec_l10Txns_lz0 {u0 : (List dTxn)} (h0 : u0.length < 9223372036854775807) {K : ((List dTxn) × ByteArray × Int) → Option Res} {s1 : ByteArray} : loopK spec_l10Txns_b0 Fuel (u0, s1, (0 : Int)) K = spec_l10Txns_w0 u0 u0 s1 0 (fun z => K (u0, z.1, z.2)) :=
  spec_l10Txns_lw0 h0 u0 0 s1 Fuel rfl (lwl_fuel h0)

def spec_l10Txns_t (a0 : (List dTxn)) (k : ByteArray → Option Res) : Option Res :=
  spec_l01Var_k (a0.length : Int) (fun y9 =>
    spec_l10Txns_w0 a0 a0 y9 0 (fun z10 =>
      k z10.1))

theorem spec_l10Txns_r {a0 : (List dTxn)} (h0 : a0.length < 9223372036854775807) {k : ByteArray → Option Res} : spec_l10Txns_k a0 k = spec_l10Txns_t a0 k := by
  rw [spec_l10Txns_e]
  simp only [spec_l10Txns_d, spec_l10Txns_t, (spec_l10Txns_lz0 h0), Sum.elim_inl, Sum.elim_inr]

def spec_BaseText_w0 (u2 : (List dVersion)) (u3 : (List dTxn)) (u4 : (List dTxn)) (u5 : Int) (u6 : Int) : List dVersion → ByteArray → Nat → ((ByteArray × Int) → Option Res) → Option Res
  | [], s0, i, k =>
    k (s0, (i : Int))
  | y :: l, s0, i, k =>
    spec_l07Short_k y.1 (fun y1 =>
      if s0.size + y1.size ≤ 1099511627776 then
        spec_l07Short_k y.2.1 (fun y2 =>
          if (s0 ++ y1).size + y2.size ≤ 1099511627776 then
            spec_l07Bit_k y.2.2.1 (fun y3 =>
              if ((s0 ++ y1) ++ y2).size + y3.size ≤ 1099511627776 then
                spec_l01Var_k y.2.2.2 (fun y4 =>
                  if (((s0 ++ y1) ++ y2) ++ y3).size + y4.size ≤ 1099511627776 then
                    spec_BaseText_w0 u2 u3 u4 u5 u6 l ((((s0 ++ y1) ++ y2) ++ y3) ++ y4) (i + 1) k
                  else none)
              else none)
          else none)
      else none)

theorem spec_BaseText_lw0 {u2 : (List dVersion)} {u3 : (List dTxn)} {u4 : (List dTxn)} {u5 : Int} {u6 : Int} (h0 : u2.length < 9223372036854775807) {K : (ByteArray × Int × (List dVersion) × (List dTxn) × (List dTxn) × Int × Int) → Option Res} : ∀ (l : List dVersion) (i : Nat) (s0 : ByteArray) (n : Nat), u2.drop i = l → l.length < n → loopK spec_BaseText_b0 n (s0, (i : Int), u2, u3, u4, u5, u6) K = spec_BaseText_w0 u2 u3 u4 u5 u6 l s0 i (fun z => K (z.1, z.2, u2, u3, u4, u5, u6)) := by
  intro l
  induction l with
  | nil =>
    intro i s0 n hd hn
    have hge := lwl_nil hd
    cases n with
    | zero => exact absurd hn (Nat.not_lt_zero _)
    | succ n => simp only [loopK, spec_BaseText_b0, spec_BaseText_w0, hge, decide_false, cond_false, Sum.elim_inr, Sum.elim_inl]
  | cons y l ih =>
    intro i s0 n hd hn
    obtain ⟨hlt, hz, hd2, hw, hnn⟩ := lwl_cons hd h0
    have hy := lwl_get hd
    cases n with
    | zero => exact absurd hn (Nat.not_lt_zero _)
    | succ n =>
      have ih2 := fun (s0 : ByteArray) => ih (i + 1) s0 n hd2 (Nat.lt_of_succ_lt_succ hn)
      simp only [loopK, spec_BaseText_b0, spec_BaseText_w0, hlt, hz, decide_true, cond_true, and_self, if_true, hy, hw, hnn, Sum.elim_inl, Sum.elim_inr, ih2]

theorem spec_BaseText_lz0 {u2 : (List dVersion)} {u3 : (List dTxn)} {u4 : (List dTxn)} {u5 : Int} {u6 : Int} (h0 : u2.length < 9223372036854775807) {K : (ByteArray × Int × (List dVersion) × (List dTxn) × (List dTxn) × Int × Int) → Option Res} {s0 : ByteArray} : loopK spec_BaseText_b0 Fuel (s0, (0 : Int), u2, u3, u4, u5, u6) K = spec_BaseText_w0 u2 u3 u4 u5 u6 u2 s0 0 (fun z => K (z.1, z.2, u2, u3, u4, u5, u6)) :=
  spec_BaseText_lw0 h0 u2 0 s0 Fuel rfl (lwl_fuel h0)

def spec_BaseText_t (a0 : dBase) (k : (ByteArray × Bool) → Option Res) : Option Res :=
  spec_BaseOk_k a0 (fun y9 =>
    bif (!y9) then
      k ((⟨#[]⟩ : ByteArray), false)
    else
      spec_l01Var_k a0.2.2.2.1 (fun y10 =>
        spec_l01Var_k a0.2.2.2.2 (fun y11 =>
          if y10.size + y11.size ≤ 1099511627776 then
            spec_l01Var_k (a0.1.length : Int) (fun y12 =>
              if (y10 ++ y11).size + y12.size ≤ 1099511627776 then
                spec_BaseText_w0 a0.1 a0.2.1 a0.2.2.1 a0.2.2.2.1 a0.2.2.2.2 a0.1 ((y10 ++ y11) ++ y12) 0 (fun z13 =>
                  spec_l10Txns_k a0.2.1 (fun y14 =>
                    if z13.1.size + y14.size ≤ 1099511627776 then
                      spec_l10Txns_k a0.2.2.1 (fun y15 =>
                        if (z13.1 ++ y14).size + y15.size ≤ 1099511627776 then
                          k (((z13.1 ++ y14) ++ y15), true)
                        else none)
                    else none))
              else none)
          else none)))

theorem spec_BaseText_r {a0 : dBase} (h0 : a0.1.length < 9223372036854775807) {k : (ByteArray × Bool) → Option Res} : spec_BaseText_k a0 k = spec_BaseText_t a0 k := by
  rw [spec_BaseText_e]
  simp only [spec_BaseText_d, spec_BaseText_t, (spec_BaseText_lz0 h0), Sum.elim_inl, Sum.elim_inr]

def impl_KeyOk_w0 (u0 : ByteArray) (u1 : Bool) : List Int → Nat → (((Bool × Int) ⊕ Int) → Option Res) → Option Res
  | [], i, k =>
    k (.inr (i : Int))
  | y :: l, i, k =>
    bif (decide (y < (97 : Int))) then
      k (.inl (false, (i : Int)))
    else
      bif (decide (y > (122 : Int))) then
        k (.inl (false, (i : Int)))
      else
        impl_KeyOk_w0 u0 u1 l (i + 1) k

theorem impl_KeyOk_lw0 {u0 : ByteArray} {u1 : Bool} (h0 : u0.size < 9223372036854775807) {K : ((ByteArray × Bool × Int) ⊕ (ByteArray × Bool × Int)) → Option Res} : ∀ (l : List Int) (i : Nat)  (n : Nat), (intsOf u0).drop i = l → l.length < n → loopK impl_KeyOk_b0 n (u0, u1, (i : Int)) K = impl_KeyOk_w0 u0 u1 l  i (Sum.elim (fun z => K (.inl (u0, z.1, z.2))) (fun z => K (.inr (u0, u1, z)))) := by
  intro l
  induction l with
  | nil =>
    intro i  n hd hn
    have hge := lws_nil hd
    cases n with
    | zero => exact absurd hn (Nat.not_lt_zero _)
    | succ n => simp only [loopK, impl_KeyOk_b0, impl_KeyOk_w0, hge, decide_false, cond_false, Sum.elim_inr, Sum.elim_inl]
  | cons y l ih =>
    intro i  n hd hn
    obtain ⟨hlt, hz, hd2, hw, hnn⟩ := lws_cons hd h0
    have hy := lws_get hd
    cases n with
    | zero => exact absurd hn (Nat.not_lt_zero _)
    | succ n =>
      have ih2 := ih (i + 1)  n hd2 (Nat.lt_of_succ_lt_succ hn)
      simp only [loopK, impl_KeyOk_b0, impl_KeyOk_w0, hlt, hz, decide_true, cond_true, and_self, if_true, hy, hw, hnn, Sum.elim_inl, Sum.elim_inr, ih2]

theorem impl_KeyOk_lz0 {u0 : ByteArray} {u1 : Bool} (h0 : u0.size < 9223372036854775807) {K : ((ByteArray × Bool × Int) ⊕ (ByteArray × Bool × Int)) → Option Res}  : loopK impl_KeyOk_b0 Fuel (u0, u1, (0 : Int)) K = impl_KeyOk_w0 u0 u1 (intsOf u0)  0 (Sum.elim (fun z => K (.inl (u0, z.1, z.2))) (fun z => K (.inr (u0, u1, z)))) :=
  impl_KeyOk_lw0 h0 (intsOf u0) 0  Fuel rfl (lws_fuel h0)

def impl_KeyOk_t (a0 : ByteArray) (k : Bool → Option Res) : Option Res :=
  impl_KeyOk_w0 a0 false (intsOf a0)  0 (Sum.elim (fun z9 =>
    k z9.1) (fun _ =>
    impl_within_k (a0.size : Int) (1 : Int) (3 : Int) (fun y11 =>
      k y11)))

theorem impl_KeyOk_r {a0 : ByteArray} (h0 : a0.size < 9223372036854775807) {k : Bool → Option Res} : impl_KeyOk_k a0 k = impl_KeyOk_t a0 k := by
  rw [impl_KeyOk_e]
  simp only [impl_KeyOk_d, impl_KeyOk_t, (impl_KeyOk_lz0 h0), Sum.elim_inl, Sum.elim_inr]

def impl_VersionsOk_w0 (u0 : (List dVersion)) (u1 : Bool) (u2 : (List dVersion)) : List dVersion → Nat → (((Bool × Int) ⊕ Int) → Option Res) → Option Res
  | [], i, k =>
    k (.inr (i : Int))
  | y :: l, i, k =>
    impl_KeyOk_k y.1 (fun y1 =>
      bif (!y1) then
        k (.inl (false, (i : Int)))
      else
        bif (decide ((y.2.1.size : Int) > (12 : Int))) then
          k (.inl (false, (i : Int)))
        else
          bif y.2.2.1 then
            bif (!(strEq (y.2.1) (⟨#[]⟩ : ByteArray))) then
              k (.inl (false, (i : Int)))
            else
              impl_within_k y.2.2.2 (1 : Int) (9999 : Int) (fun y2 =>
                bif (!y2) then
                  k (.inl (false, (i : Int)))
                else
                  bif (decide ((i : Int) > (0 : Int))) then
                    if 0 ≤ (IntKind.wrap .i64 ((i : Int) - (1 : Int))) ∧ (IntKind.wrap .i64 ((i : Int) - (1 : Int))) < (u0.length : Int) then
                      impl_compareVersion_k (rd (Ty.zero tVersion) u0 (IntKind.wrap .i64 ((i : Int) - (1 : Int)))) y (fun y3 =>
                        bif (decide (y3 ≥ (0 : Int))) then
                          k (.inl (false, (i : Int)))
                        else
                          impl_VersionsOk_w0 u0 u1 u2 l (i + 1) k)
                    else none
                  else
                    impl_VersionsOk_w0 u0 u1 u2 l (i + 1) k)
          else
            impl_within_k y.2.2.2 (1 : Int) (9999 : Int) (fun y4 =>
              bif (!y4) then
                k (.inl (false, (i : Int)))
              else
                bif (decide ((i : Int) > (0 : Int))) then
                  if 0 ≤ (IntKind.wrap .i64 ((i : Int) - (1 : Int))) ∧ (IntKind.wrap .i64 ((i : Int) - (1 : Int))) < (u0.length : Int) then
                    impl_compareVersion_k (rd (Ty.zero tVersion) u0 (IntKind.wrap .i64 ((i : Int) - (1 : Int)))) y (fun y5 =>
                      bif (decide (y5 ≥ (0 : Int))) then
                        k (.inl (false, (i : Int)))
                      else
                        impl_VersionsOk_w0 u0 u1 u2 l (i + 1) k)
                  else none
                else
                  impl_VersionsOk_w0 u0 u1 u2 l (i + 1) k))

theorem impl_VersionsOk_lw0 {u0 : (List dVersion)} {u1 : Bool} {u2 : (List dVersion)} (h0 : u2.length < 9223372036854775807) {K : (((List dVersion) × Bool × (List dVersion) × Int × Int) ⊕ ((List dVersion) × Bool × (List dVersion) × Int × Int)) → Option Res} : ∀ (l : List dVersion) (i : Nat)  (n : Nat), u2.drop i = l → l.length < n → loopK impl_VersionsOk_b0 n (u0, u1, u2, (u2.length : Int), (i : Int)) K = impl_VersionsOk_w0 u0 u1 u2 l  i (Sum.elim (fun z => K (.inl (u0, z.1, u2, (u2.length : Int), z.2))) (fun z => K (.inr (u0, u1, u2, (u2.length : Int), z)))) := by
  intro l
  induction l with
  | nil =>
    intro i  n hd hn
    have hge := lwl_nil hd
    cases n with
    | zero => exact absurd hn (Nat.not_lt_zero _)
    | succ n => simp only [loopK, impl_VersionsOk_b0, impl_VersionsOk_w0, hge, decide_false, cond_false, Sum.elim_inr, Sum.elim_inl]
  | cons y l ih =>
    intro i  n hd hn
    obtain ⟨hlt, hz, hd2, hw, hnn⟩ := lwl_cons hd h0
    have hy := lwl_get hd
    cases n with
    | zero => exact absurd hn (Nat.not_lt_zero _)
    | succ n =>
      have ih2 := ih (i + 1)  n hd2 (Nat.lt_of_succ_lt_succ hn)
      simp only [loopK, impl_VersionsOk_b0, impl_VersionsOk_w0, hlt, hz, decide_true, cond_true, and_self, if_true, hy, hw, hnn, Sum.elim_inl, Sum.elim_inr, ih2]

theorem impl_VersionsOk_lz0 {u0 : (List dVersion)} {u1 : Bool} {u2 : (List dVersion)} (h0 : u2.length < 9223372036854775807) {K : (((List dVersion) × Bool × (List dVersion) × Int × Int) ⊕ ((List dVersion) × Bool × (List dVersion) × Int × Int)) → Option Res}  : loopK impl_VersionsOk_b0 Fuel (u0, u1, u2, (u2.length : Int), (0 : Int)) K = impl_VersionsOk_w0 u0 u1 u2 u2  0 (Sum.elim (fun z => K (.inl (u0, z.1, u2, (u2.length : Int), z.2))) (fun z => K (.inr (u0, u1, u2, (u2.length : Int), z)))) :=
  impl_VersionsOk_lw0 h0 u2 0  Fuel rfl (lwl_fuel h0)

def impl_VersionsOk_t (a0 : (List dVersion)) (k : Bool → Option Res) : Option Res :=
  impl_VersionsOk_w0 a0 false a0 a0  0 (Sum.elim (fun z9 =>
    k z9.1) (fun _ =>
    k (decide ((a0.length : Int) ≤ (120 : Int)))))

theorem impl_VersionsOk_r {a0 : (List dVersion)} (h0 : a0.length < 9223372036854775807) {k : Bool → Option Res} : impl_VersionsOk_k a0 k = impl_VersionsOk_t a0 k := by
  rw [impl_VersionsOk_e]
  simp only [impl_VersionsOk_d, impl_VersionsOk_t, (impl_VersionsOk_lz0 h0), Sum.elim_inl, Sum.elim_inr]

def impl_WritesOk_w0 (u0 : (List dWrite)) (u1 : Bool) (u2 : (List dWrite)) : List dWrite → Nat → (((Bool × Int) ⊕ Int) → Option Res) → Option Res
  | [], i, k =>
    k (.inr (i : Int))
  | y :: l, i, k =>
    impl_WriteOk_k y (fun y1 =>
      bif (!y1) then
        k (.inl (false, (i : Int)))
      else
        bif (decide ((i : Int) > (0 : Int))) then
          if 0 ≤ (IntKind.wrap .i64 ((i : Int) - (1 : Int))) ∧ (IntKind.wrap .i64 ((i : Int) - (1 : Int))) < (u0.length : Int) then
            bif (!(strLess ((rd (Ty.zero tWrite) u0 (IntKind.wrap .i64 ((i : Int) - (1 : Int)))).1) (y.1))) then
              k (.inl (false, (i : Int)))
            else
              impl_WritesOk_w0 u0 u1 u2 l (i + 1) k
          else none
        else
          impl_WritesOk_w0 u0 u1 u2 l (i + 1) k)

theorem impl_WritesOk_lw0 {u0 : (List dWrite)} {u1 : Bool} {u2 : (List dWrite)} (h0 : u2.length < 9223372036854775807) {K : (((List dWrite) × Bool × (List dWrite) × Int × Int) ⊕ ((List dWrite) × Bool × (List dWrite) × Int × Int)) → Option Res} : ∀ (l : List dWrite) (i : Nat)  (n : Nat), u2.drop i = l → l.length < n → loopK impl_WritesOk_b0 n (u0, u1, u2, (u2.length : Int), (i : Int)) K = impl_WritesOk_w0 u0 u1 u2 l  i (Sum.elim (fun z => K (.inl (u0, z.1, u2, (u2.length : Int), z.2))) (fun z => K (.inr (u0, u1, u2, (u2.length : Int), z)))) := by
  intro l
  induction l with
  | nil =>
    intro i  n hd hn
    have hge := lwl_nil hd
    cases n with
    | zero => exact absurd hn (Nat.not_lt_zero _)
    | succ n => simp only [loopK, impl_WritesOk_b0, impl_WritesOk_w0, hge, decide_false, cond_false, Sum.elim_inr, Sum.elim_inl]
  | cons y l ih =>
    intro i  n hd hn
    obtain ⟨hlt, hz, hd2, hw, hnn⟩ := lwl_cons hd h0
    have hy := lwl_get hd
    cases n with
    | zero => exact absurd hn (Nat.not_lt_zero _)
    | succ n =>
      have ih2 := ih (i + 1)  n hd2 (Nat.lt_of_succ_lt_succ hn)
      simp only [loopK, impl_WritesOk_b0, impl_WritesOk_w0, hlt, hz, decide_true, cond_true, and_self, if_true, hy, hw, hnn, Sum.elim_inl, Sum.elim_inr, ih2]

theorem impl_WritesOk_lz0 {u0 : (List dWrite)} {u1 : Bool} {u2 : (List dWrite)} (h0 : u2.length < 9223372036854775807) {K : (((List dWrite) × Bool × (List dWrite) × Int × Int) ⊕ ((List dWrite) × Bool × (List dWrite) × Int × Int)) → Option Res}  : loopK impl_WritesOk_b0 Fuel (u0, u1, u2, (u2.length : Int), (0 : Int)) K = impl_WritesOk_w0 u0 u1 u2 u2  0 (Sum.elim (fun z => K (.inl (u0, z.1, u2, (u2.length : Int), z.2))) (fun z => K (.inr (u0, u1, u2, (u2.length : Int), z)))) :=
  impl_WritesOk_lw0 h0 u2 0  Fuel rfl (lwl_fuel h0)

def impl_WritesOk_t (a0 : (List dWrite)) (k : Bool → Option Res) : Option Res :=
  impl_WritesOk_w0 a0 false a0 a0  0 (Sum.elim (fun z9 =>
    k z9.1) (fun _ =>
    k (decide ((a0.length : Int) ≤ (8 : Int)))))

theorem impl_WritesOk_r {a0 : (List dWrite)} (h0 : a0.length < 9223372036854775807) {k : Bool → Option Res} : impl_WritesOk_k a0 k = impl_WritesOk_t a0 k := by
  rw [impl_WritesOk_e]
  simp only [impl_WritesOk_d, impl_WritesOk_t, (impl_WritesOk_lz0 h0), Sum.elim_inl, Sum.elim_inr]

def impl_TxnOk_wj5000011 (u0 : Bool) (u1 : Int) (u2 : Int) (u3 : Int) (u4 : Int) (u5 : (List dRange)) (u6 : (List dWrite)) (u7 : Bool) (u8 : ByteArray) (k : Bool → Option Res) : Option Res :=
    bif (u2 == (2 : Int)) then
      impl_KeyOk_k u8 (fun y1 =>
        bif y1 then
          k true
        else
          bif (u2 != (2 : Int)) then
            k (strEq u8 (⟨#[]⟩ : ByteArray))
          else
            k false)
    else
      bif (u2 != (2 : Int)) then
        k (strEq u8 (⟨#[]⟩ : ByteArray))
      else
        k false

theorem impl_TxnOk_wz5000011 {u0 : Bool} {u1 : Int} {u2 : Int} {u3 : Int} {u4 : Int} {u5 : (List dRange)} {u6 : (List dWrite)} {u7 : Bool} {u8 : ByteArray}  {K : (Bool × Int × Int × Int × Int × (List dRange) × (List dWrite) × Bool × ByteArray) → Option Res} : impl_TxnOk_j5000011 (u0, u1, u2, u3, u4, u5, u6, u7, u8) K = impl_TxnOk_wj5000011 u0 u1 u2 u3 u4 u5 u6 u7 u8 (fun z => K (z, u1, u2, u3, u4, u5, u6, u7, u8)) := by
  simp only [impl_TxnOk_j5000011, impl_TxnOk_wj5000011, Sum.elim_inl, Sum.elim_inr]

def impl_TxnOk_wj5000009 (u0 : Bool) (u1 : Int) (u2 : Int) (u3 : Int) (u4 : Int) (u5 : (List dRange)) (u6 : (List dWrite)) (u7 : Bool) (u8 : ByteArray) (k : Bool → Option Res) : Option Res :=
    bif (u2 == (3 : Int)) then
      impl_within_k u4 (IntKind.wrap .i64 (u3 + (1 : Int))) (9999 : Int) (fun y1 =>
        bif (!y1) then
          k false
        else
          bif (u2 != (3 : Int)) then
            bif (u4 != (0 : Int)) then
              k false
            else
              impl_TxnOk_wj5000011 u0 u1 u2 u3 u4 u5 u6 u7 u8 (fun z2 =>
                k z2)
          else
            impl_TxnOk_wj5000011 u0 u1 u2 u3 u4 u5 u6 u7 u8 (fun z3 =>
              k z3))
    else
      bif (u2 != (3 : Int)) then
        bif (u4 != (0 : Int)) then
          k false
        else
          impl_TxnOk_wj5000011 u0 u1 u2 u3 u4 u5 u6 u7 u8 (fun z4 =>
            k z4)
      else
        impl_TxnOk_wj5000011 u0 u1 u2 u3 u4 u5 u6 u7 u8 (fun z5 =>
          k z5)

theorem impl_TxnOk_wz5000009 {u0 : Bool} {u1 : Int} {u2 : Int} {u3 : Int} {u4 : Int} {u5 : (List dRange)} {u6 : (List dWrite)} {u7 : Bool} {u8 : ByteArray}  {K : (Bool × Int × Int × Int × Int × (List dRange) × (List dWrite) × Bool × ByteArray) → Option Res} : impl_TxnOk_j5000009 (u0, u1, u2, u3, u4, u5, u6, u7, u8) K = impl_TxnOk_wj5000009 u0 u1 u2 u3 u4 u5 u6 u7 u8 (fun z => K (z, u1, u2, u3, u4, u5, u6, u7, u8)) := by
  simp only [impl_TxnOk_j5000009, impl_TxnOk_wj5000009, impl_TxnOk_wz5000011, Sum.elim_inl, Sum.elim_inr]

def impl_TxnOk_w0 (u0 : Bool) (u1 : (List dRange)) (u4 : Int) (u5 : Int) (u6 : Int) (u7 : Int) (u8 : (List dRange)) (u9 : (List dWrite)) (u10 : Bool) (u11 : ByteArray) : List dRange → Nat → (((Bool × Int) ⊕ Int) → Option Res) → Option Res
  | [], i, k =>
    k (.inr (i : Int))
  | y :: l, i, k =>
    impl_RangeOk_k y (fun y1 =>
      bif (!y1) then
        k (.inl (false, (i : Int)))
      else
        impl_TxnOk_w0 u0 u1 u4 u5 u6 u7 u8 u9 u10 u11 l (i + 1) k)

theorem impl_TxnOk_lw0 {u0 : Bool} {u1 : (List dRange)} {u4 : Int} {u5 : Int} {u6 : Int} {u7 : Int} {u8 : (List dRange)} {u9 : (List dWrite)} {u10 : Bool} {u11 : ByteArray} (h0 : u1.length < 9223372036854775807) {K : ((Bool × (List dRange) × Int × Int × Int × Int × Int × Int × (List dRange) × (List dWrite) × Bool × ByteArray) ⊕ (Bool × (List dRange) × Int × Int × Int × Int × Int × Int × (List dRange) × (List dWrite) × Bool × ByteArray)) → Option Res} : ∀ (l : List dRange) (i : Nat)  (n : Nat), u1.drop i = l → l.length < n → loopK impl_TxnOk_b0 n (u0, u1, (u1.length : Int), (i : Int), u4, u5, u6, u7, u8, u9, u10, u11) K = impl_TxnOk_w0 u0 u1 u4 u5 u6 u7 u8 u9 u10 u11 l  i (Sum.elim (fun z => K (.inl (z.1, u1, (u1.length : Int), z.2, u4, u5, u6, u7, u8, u9, u10, u11))) (fun z => K (.inr (u0, u1, (u1.length : Int), z, u4, u5, u6, u7, u8, u9, u10, u11)))) := by
  intro l
  induction l with
  | nil =>
    intro i  n hd hn
    have hge := lwl_nil hd
    cases n with
    | zero => exact absurd hn (Nat.not_lt_zero _)
    | succ n => simp only [loopK, impl_TxnOk_b0, impl_TxnOk_w0, hge, decide_false, cond_false, Sum.elim_inr, Sum.elim_inl]
  | cons y l ih =>
    intro i  n hd hn
    obtain ⟨hlt, hz, hd2, hw, hnn⟩ := lwl_cons hd h0
    have hy := lwl_get hd
    cases n with
    | zero => exact absurd hn (Nat.not_lt_zero _)
    | succ n =>
      have ih2 := ih (i + 1)  n hd2 (Nat.lt_of_succ_lt_succ hn)
      simp only [loopK, impl_TxnOk_b0, impl_TxnOk_w0, hlt, hz, decide_true, cond_true, and_self, if_true, hy, hw, hnn, Sum.elim_inl, Sum.elim_inr, ih2]

theorem impl_TxnOk_lz0 {u0 : Bool} {u1 : (List dRange)} {u4 : Int} {u5 : Int} {u6 : Int} {u7 : Int} {u8 : (List dRange)} {u9 : (List dWrite)} {u10 : Bool} {u11 : ByteArray} (h0 : u1.length < 9223372036854775807) {K : ((Bool × (List dRange) × Int × Int × Int × Int × Int × Int × (List dRange) × (List dWrite) × Bool × ByteArray) ⊕ (Bool × (List dRange) × Int × Int × Int × Int × Int × Int × (List dRange) × (List dWrite) × Bool × ByteArray)) → Option Res}  : loopK impl_TxnOk_b0 Fuel (u0, u1, (u1.length : Int), (0 : Int), u4, u5, u6, u7, u8, u9, u10, u11) K = impl_TxnOk_w0 u0 u1 u4 u5 u6 u7 u8 u9 u10 u11 u1  0 (Sum.elim (fun z => K (.inl (z.1, u1, (u1.length : Int), z.2, u4, u5, u6, u7, u8, u9, u10, u11))) (fun z => K (.inr (u0, u1, (u1.length : Int), z, u4, u5, u6, u7, u8, u9, u10, u11)))) :=
  impl_TxnOk_lw0 h0 u1 0  Fuel rfl (lwl_fuel h0)

def impl_TxnOk_t (a0 : dTxn) (k : Bool → Option Res) : Option Res :=
  impl_TxnOk_w0 false a0.2.2.2.2.1 a0.1 a0.2.1 a0.2.2.1 a0.2.2.2.1 a0.2.2.2.2.1 a0.2.2.2.2.2.1 a0.2.2.2.2.2.2.1 a0.2.2.2.2.2.2.2 a0.2.2.2.2.1  0 (Sum.elim (fun z9 =>
    k z9.1) (fun _ =>
    impl_within_k a0.1 (1 : Int) (9999 : Int) (fun y11 =>
      bif (!y11) then
        k false
      else
        impl_within_k a0.2.1 (1 : Int) (3 : Int) (fun y12 =>
          bif (!y12) then
            k false
          else
            impl_within_k a0.2.2.1 (0 : Int) (9999 : Int) (fun y13 =>
              bif (!y13) then
                k false
              else
                bif (decide ((a0.2.2.2.2.1.length : Int) > (8 : Int))) then
                  k false
                else
                  impl_WritesOk_k a0.2.2.2.2.2.1 (fun y14 =>
                    bif (!y14) then
                      k false
                    else
                      bif a0.2.2.2.2.2.2.1 then
                        bif (a0.2.1 == (1 : Int)) then
                          k false
                        else
                          impl_TxnOk_wj5000009 false a0.1 a0.2.1 a0.2.2.1 a0.2.2.2.1 a0.2.2.2.2.1 a0.2.2.2.2.2.1 a0.2.2.2.2.2.2.1 a0.2.2.2.2.2.2.2 (fun z15 =>
                            k z15)
                      else
                        impl_TxnOk_wj5000009 false a0.1 a0.2.1 a0.2.2.1 a0.2.2.2.1 a0.2.2.2.2.1 a0.2.2.2.2.2.1 a0.2.2.2.2.2.2.1 a0.2.2.2.2.2.2.2 (fun z16 =>
                          k z16)))))))

theorem impl_TxnOk_r {a0 : dTxn} (h0 : a0.2.2.2.2.1.length < 9223372036854775807) {k : Bool → Option Res} : impl_TxnOk_k a0 k = impl_TxnOk_t a0 k := by
  rw [impl_TxnOk_e]
  simp only [impl_TxnOk_d, impl_TxnOk_t, impl_TxnOk_wz5000009, (impl_TxnOk_lz0 h0), Sum.elim_inl, Sum.elim_inr]

def slices_Concat_Txn_w0 (u0 : (List (List dTxn))) (u2 : (List (List dTxn))) : List (List dTxn) → Int → Nat → ((Int × Int) → Option Res) → Option Res
  | [], s1, i, k =>
    k (s1, (i : Int))
  | y :: l, s1, i, k =>
    bif (decide ((IntKind.wrap .i64 (s1 + (y.length : Int))) < (0 : Int))) then
      none
    else
      slices_Concat_Txn_w0 u0 u2 l (IntKind.wrap .i64 (s1 + (y.length : Int))) (i + 1) k

theorem slices_Concat_Txn_lw0 {u0 : (List (List dTxn))} {u2 : (List (List dTxn))} (h0 : u2.length < 9223372036854775807) {K : ((List (List dTxn)) × Int × (List (List dTxn)) × Int × Int) → Option Res} : ∀ (l : List (List dTxn)) (i : Nat) (s1 : Int) (n : Nat), u2.drop i = l → l.length < n → loopK slices_Concat_Txn_b0 n (u0, s1, u2, (u2.length : Int), (i : Int)) K = slices_Concat_Txn_w0 u0 u2 l s1 i (fun z => K (u0, z.1, u2, (u2.length : Int), z.2)) := by
  intro l
  induction l with
  | nil =>
    intro i s1 n hd hn
    have hge := lwl_nil hd
    cases n with
    | zero => exact absurd hn (Nat.not_lt_zero _)
    | succ n => simp only [loopK, slices_Concat_Txn_b0, slices_Concat_Txn_w0, hge, decide_false, cond_false, Sum.elim_inr, Sum.elim_inl]
  | cons y l ih =>
    intro i s1 n hd hn
    obtain ⟨hlt, hz, hd2, hw, hnn⟩ := lwl_cons hd h0
    have hy := lwl_get hd
    cases n with
    | zero => exact absurd hn (Nat.not_lt_zero _)
    | succ n =>
      have ih2 := fun (s1 : Int) => ih (i + 1) s1 n hd2 (Nat.lt_of_succ_lt_succ hn)
      simp only [loopK, slices_Concat_Txn_b0, slices_Concat_Txn_w0, hlt, hz, decide_true, cond_true, and_self, if_true, hy, hw, hnn, Sum.elim_inl, Sum.elim_inr, ih2]

theorem slices_Concat_Txn_lz0 {u0 : (List (List dTxn))} {u2 : (List (List dTxn))} (h0 : u2.length < 9223372036854775807) {K : ((List (List dTxn)) × Int × (List (List dTxn)) × Int × Int) → Option Res} {s1 : Int} : loopK slices_Concat_Txn_b0 Fuel (u0, s1, u2, (u2.length : Int), (0 : Int)) K = slices_Concat_Txn_w0 u0 u2 u2 s1 0 (fun z => K (u0, z.1, u2, (u2.length : Int), z.2)) :=
  slices_Concat_Txn_lw0 h0 u2 0 s1 Fuel rfl (lwl_fuel h0)

def slices_Concat_Txn_w2 (u0 : (List (List dTxn))) : List (List dTxn) → (List dTxn) → Nat → ((Int × (List dTxn)) → Option Res) → Option Res
  | [], s3, i, k =>
    k ((i : Int), s3)
  | y :: l, s3, i, k =>
    if s3.length + y.length ≤ VE.maxLen then
      slices_Concat_Txn_w2 u0 l (s3 ++ y) (i + 1) k
    else none

theorem slices_Concat_Txn_lw2 {u0 : (List (List dTxn))} (h0 : u0.length < 9223372036854775807) {K : ((List (List dTxn)) × Int × Int × (List dTxn)) → Option Res} : ∀ (l : List (List dTxn)) (i : Nat) (s3 : (List dTxn)) (n : Nat), u0.drop i = l → l.length < n → loopK slices_Concat_Txn_b2 n (u0, (u0.length : Int), (i : Int), s3) K = slices_Concat_Txn_w2 u0 l s3 i (fun z => K (u0, (u0.length : Int), z.1, z.2)) := by
  intro l
  induction l with
  | nil =>
    intro i s3 n hd hn
    have hge := lwl_nil hd
    cases n with
    | zero => exact absurd hn (Nat.not_lt_zero _)
    | succ n => simp only [loopK, slices_Concat_Txn_b2, slices_Concat_Txn_w2, hge, decide_false, cond_false, Sum.elim_inr, Sum.elim_inl]
  | cons y l ih =>
    intro i s3 n hd hn
    obtain ⟨hlt, hz, hd2, hw, hnn⟩ := lwl_cons hd h0
    have hy := lwl_get hd
    cases n with
    | zero => exact absurd hn (Nat.not_lt_zero _)
    | succ n =>
      have ih2 := fun (s3 : (List dTxn)) => ih (i + 1) s3 n hd2 (Nat.lt_of_succ_lt_succ hn)
      simp only [loopK, slices_Concat_Txn_b2, slices_Concat_Txn_w2, hlt, hz, decide_true, cond_true, and_self, if_true, hy, hw, hnn, Sum.elim_inl, Sum.elim_inr, ih2]

theorem slices_Concat_Txn_lz2 {u0 : (List (List dTxn))} (h0 : u0.length < 9223372036854775807) {K : ((List (List dTxn)) × Int × Int × (List dTxn)) → Option Res} {s3 : (List dTxn)} : loopK slices_Concat_Txn_b2 Fuel (u0, (u0.length : Int), (0 : Int), s3) K = slices_Concat_Txn_w2 u0 u0 s3 0 (fun z => K (u0, (u0.length : Int), z.1, z.2)) :=
  slices_Concat_Txn_lw2 h0 u0 0 s3 Fuel rfl (lwl_fuel h0)

def slices_Concat_Txn_t (a0 : (List (List dTxn))) (k : (List dTxn) → Option Res) : Option Res :=
  slices_Concat_Txn_w0 a0 a0 a0 (0 : Int) 0 (fun z9 =>
    slices_Grow_Txn_vn_k z9.1 (fun y10 =>
      slices_Concat_Txn_w2 a0 a0 y10 0 (fun z11 =>
        k z11.2)))

theorem slices_Concat_Txn_r {a0 : (List (List dTxn))} (h0 : a0.length < 9223372036854775807) {k : (List dTxn) → Option Res} : slices_Concat_Txn_k a0 k = slices_Concat_Txn_t a0 k := by
  rw [slices_Concat_Txn_e]
  simp only [slices_Concat_Txn_d, slices_Concat_Txn_t, (slices_Concat_Txn_lz2 h0), (slices_Concat_Txn_lz0 h0), Sum.elim_inl, Sum.elim_inr]

def slices_IndexFunc_Txn_idsUnlike_1_w0 (u0 : (List dTxn)) (u1 : Int) : List dTxn → Int → Int → Int → Int → (List dRange) → (List dWrite) → Bool → ByteArray → Nat → (((Int × Int × Int × Int × Int × Int × (List dRange) × (List dWrite) × Bool × ByteArray) ⊕ (Int × Int × Int × Int × Int × (List dRange) × (List dWrite) × Bool × ByteArray)) → Option Res) → Option Res
  | [], s4, s5, s6, s7, s8, s9, s10, s11, i, k =>
    k (.inr ((i : Int), s4, s5, s6, s7, s8, s9, s10, s11))
  | y :: l, s4, s5, s6, s7, s8, s9, s10, s11, i, k =>
    impl_idsUnlike_1_k y s4 s5 s6 s7 s8 s9 s10 s11 (fun y1 =>
      bif y1.1 then
        k (.inl ((i : Int), (i : Int), y1.2.1, y1.2.2.1, y1.2.2.2.1, y1.2.2.2.2.1, y1.2.2.2.2.2.1, y1.2.2.2.2.2.2.1, y1.2.2.2.2.2.2.2.1, y1.2.2.2.2.2.2.2.2))
      else
        slices_IndexFunc_Txn_idsUnlike_1_w0 u0 u1 l y1.2.1 y1.2.2.1 y1.2.2.2.1 y1.2.2.2.2.1 y1.2.2.2.2.2.1 y1.2.2.2.2.2.2.1 y1.2.2.2.2.2.2.2.1 y1.2.2.2.2.2.2.2.2 (i + 1) k)

theorem slices_IndexFunc_Txn_idsUnlike_1_lw0 {u0 : (List dTxn)} {u1 : Int} (h0 : u0.length < 9223372036854775807) {K : (((List dTxn) × Int × Int × Int × Int × Int × Int × Int × (List dRange) × (List dWrite) × Bool × ByteArray) ⊕ ((List dTxn) × Int × Int × Int × Int × Int × Int × Int × (List dRange) × (List dWrite) × Bool × ByteArray)) → Option Res} : ∀ (l : List dTxn) (i : Nat) (s4 : Int) (s5 : Int) (s6 : Int) (s7 : Int) (s8 : (List dRange)) (s9 : (List dWrite)) (s10 : Bool) (s11 : ByteArray) (n : Nat), u0.drop i = l → l.length < n → loopK slices_IndexFunc_Txn_idsUnlike_1_b0 n (u0, u1, (u0.length : Int), (i : Int), s4, s5, s6, s7, s8, s9, s10, s11) K = slices_IndexFunc_Txn_idsUnlike_1_w0 u0 u1 l s4 s5 s6 s7 s8 s9 s10 s11 i (Sum.elim (fun z => K (.inl (u0, z.1, (u0.length : Int), z.2.1, z.2.2.1, z.2.2.2.1, z.2.2.2.2.1, z.2.2.2.2.2.1, z.2.2.2.2.2.2.1, z.2.2.2.2.2.2.2.1, z.2.2.2.2.2.2.2.2.1, z.2.2.2.2.2.2.2.2.2))) (fun z => K (.inr (u0, u1, (u0.length : Int), z.1, z.2.1, z.2.2.1, z.2.2.2.1, z.2.2.2.2.1, z.2.2.2.2.2.1, z.2.2.2.2.2.2.1, z.2.2.2.2.2.2.2.1, z.2.2.2.2.2.2.2.2)))) := by
  intro l
  induction l with
  | nil =>
    intro i s4 s5 s6 s7 s8 s9 s10 s11 n hd hn
    have hge := lwl_nil hd
    cases n with
    | zero => exact absurd hn (Nat.not_lt_zero _)
    | succ n => simp only [loopK, slices_IndexFunc_Txn_idsUnlike_1_b0, slices_IndexFunc_Txn_idsUnlike_1_w0, hge, decide_false, cond_false, Sum.elim_inr, Sum.elim_inl]
  | cons y l ih =>
    intro i s4 s5 s6 s7 s8 s9 s10 s11 n hd hn
    obtain ⟨hlt, hz, hd2, hw, hnn⟩ := lwl_cons hd h0
    have hy := lwl_get hd
    cases n with
    | zero => exact absurd hn (Nat.not_lt_zero _)
    | succ n =>
      have ih2 := fun (s4 : Int) (s5 : Int) (s6 : Int) (s7 : Int) (s8 : (List dRange)) (s9 : (List dWrite)) (s10 : Bool) (s11 : ByteArray) => ih (i + 1) s4 s5 s6 s7 s8 s9 s10 s11 n hd2 (Nat.lt_of_succ_lt_succ hn)
      simp only [loopK, slices_IndexFunc_Txn_idsUnlike_1_b0, slices_IndexFunc_Txn_idsUnlike_1_w0, hlt, hz, decide_true, cond_true, and_self, if_true, hy, hw, hnn, Sum.elim_inl, Sum.elim_inr, ih2]

theorem slices_IndexFunc_Txn_idsUnlike_1_lz0 {u0 : (List dTxn)} {u1 : Int} (h0 : u0.length < 9223372036854775807) {K : (((List dTxn) × Int × Int × Int × Int × Int × Int × Int × (List dRange) × (List dWrite) × Bool × ByteArray) ⊕ ((List dTxn) × Int × Int × Int × Int × Int × Int × Int × (List dRange) × (List dWrite) × Bool × ByteArray)) → Option Res} {s4 : Int} {s5 : Int} {s6 : Int} {s7 : Int} {s8 : (List dRange)} {s9 : (List dWrite)} {s10 : Bool} {s11 : ByteArray} : loopK slices_IndexFunc_Txn_idsUnlike_1_b0 Fuel (u0, u1, (u0.length : Int), (0 : Int), s4, s5, s6, s7, s8, s9, s10, s11) K = slices_IndexFunc_Txn_idsUnlike_1_w0 u0 u1 u0 s4 s5 s6 s7 s8 s9 s10 s11 0 (Sum.elim (fun z => K (.inl (u0, z.1, (u0.length : Int), z.2.1, z.2.2.1, z.2.2.2.1, z.2.2.2.2.1, z.2.2.2.2.2.1, z.2.2.2.2.2.2.1, z.2.2.2.2.2.2.2.1, z.2.2.2.2.2.2.2.2.1, z.2.2.2.2.2.2.2.2.2))) (fun z => K (.inr (u0, u1, (u0.length : Int), z.1, z.2.1, z.2.2.1, z.2.2.2.1, z.2.2.2.2.1, z.2.2.2.2.2.1, z.2.2.2.2.2.2.1, z.2.2.2.2.2.2.2.1, z.2.2.2.2.2.2.2.2)))) :=
  slices_IndexFunc_Txn_idsUnlike_1_lw0 h0 u0 0 s4 s5 s6 s7 s8 s9 s10 s11 Fuel rfl (lwl_fuel h0)

def slices_IndexFunc_Txn_idsUnlike_1_t (a0 : (List dTxn)) (a1 : Int) (a2 : Int) (a3 : Int) (a4 : Int) (a5 : (List dRange)) (a6 : (List dWrite)) (a7 : Bool) (a8 : ByteArray) (k : (Int × Int × Int × Int × Int × (List dRange) × (List dWrite) × Bool × ByteArray) → Option Res) : Option Res :=
  slices_IndexFunc_Txn_idsUnlike_1_w0 a0 (0 : Int) a0 a1 a2 a3 a4 a5 a6 a7 a8 0 (Sum.elim (fun z9 =>
    k (z9.1, z9.2.2.1, z9.2.2.2.1, z9.2.2.2.2.1, z9.2.2.2.2.2.1, z9.2.2.2.2.2.2.1, z9.2.2.2.2.2.2.2.1, z9.2.2.2.2.2.2.2.2.1, z9.2.2.2.2.2.2.2.2.2)) (fun z10 =>
    k ((-1 : Int), z10.2.1, z10.2.2.1, z10.2.2.2.1, z10.2.2.2.2.1, z10.2.2.2.2.2.1, z10.2.2.2.2.2.2.1, z10.2.2.2.2.2.2.2.1, z10.2.2.2.2.2.2.2.2)))

theorem slices_IndexFunc_Txn_idsUnlike_1_r {a0 : (List dTxn)} {a1 : Int} {a2 : Int} {a3 : Int} {a4 : Int} {a5 : (List dRange)} {a6 : (List dWrite)} {a7 : Bool} {a8 : ByteArray} (h0 : a0.length < 9223372036854775807) {k : (Int × Int × Int × Int × Int × (List dRange) × (List dWrite) × Bool × ByteArray) → Option Res} : slices_IndexFunc_Txn_idsUnlike_1_k a0 a1 a2 a3 a4 a5 a6 a7 a8 k = slices_IndexFunc_Txn_idsUnlike_1_t a0 a1 a2 a3 a4 a5 a6 a7 a8 k := by
  rw [slices_IndexFunc_Txn_idsUnlike_1_e]
  simp only [slices_IndexFunc_Txn_idsUnlike_1_d, slices_IndexFunc_Txn_idsUnlike_1_t, (slices_IndexFunc_Txn_idsUnlike_1_lz0 h0), Sum.elim_inl, Sum.elim_inr]

def impl_idsUnlike_w0 (u0 : (List dTxn)) (u1 : Int) (u2 : Bool) (u3 : (List dTxn)) : List dTxn → Nat → (((Bool × Int) ⊕ Int) → Option Res) → Option Res
  | [], i, k =>
    k (.inr (i : Int))
  | y :: l, i, k =>
    bif (decide (y.1 ≥ u1)) then
      k (.inl (false, (i : Int)))
    else
      if 0 ≤ (0 : Int) ∧ (0 : Int) ≤ (i : Int) ∧ (i : Int) ≤ (u0.length : Int) then
        impl_some_idsUnlike_1_k ((u0.take (i : Int).toNat).drop (0 : Int).toNat) y.1 y.2.1 y.2.2.1 y.2.2.2.1 y.2.2.2.2.1 y.2.2.2.2.2.1 y.2.2.2.2.2.2.1 y.2.2.2.2.2.2.2 (fun y1 =>
          bif y1.1 then
            k (.inl (false, (i : Int)))
          else
            impl_idsUnlike_w0 u0 u1 u2 u3 l (i + 1) k)
      else none

theorem impl_idsUnlike_lw0 {u0 : (List dTxn)} {u1 : Int} {u2 : Bool} {u3 : (List dTxn)} (h0 : u3.length < 9223372036854775807) {K : (((List dTxn) × Int × Bool × (List dTxn) × Int × Int) ⊕ ((List dTxn) × Int × Bool × (List dTxn) × Int × Int)) → Option Res} : ∀ (l : List dTxn) (i : Nat)  (n : Nat), u3.drop i = l → l.length < n → loopK impl_idsUnlike_b0 n (u0, u1, u2, u3, (u3.length : Int), (i : Int)) K = impl_idsUnlike_w0 u0 u1 u2 u3 l  i (Sum.elim (fun z => K (.inl (u0, u1, z.1, u3, (u3.length : Int), z.2))) (fun z => K (.inr (u0, u1, u2, u3, (u3.length : Int), z)))) := by
  intro l
  induction l with
  | nil =>
    intro i  n hd hn
    have hge := lwl_nil hd
    cases n with
    | zero => exact absurd hn (Nat.not_lt_zero _)
    | succ n => simp only [loopK, impl_idsUnlike_b0, impl_idsUnlike_w0, hge, decide_false, cond_false, Sum.elim_inr, Sum.elim_inl]
  | cons y l ih =>
    intro i  n hd hn
    obtain ⟨hlt, hz, hd2, hw, hnn⟩ := lwl_cons hd h0
    have hy := lwl_get hd
    cases n with
    | zero => exact absurd hn (Nat.not_lt_zero _)
    | succ n =>
      have ih2 := ih (i + 1)  n hd2 (Nat.lt_of_succ_lt_succ hn)
      simp only [loopK, impl_idsUnlike_b0, impl_idsUnlike_w0, hlt, hz, decide_true, cond_true, and_self, if_true, hy, hw, hnn, Sum.elim_inl, Sum.elim_inr, ih2]

theorem impl_idsUnlike_lz0 {u0 : (List dTxn)} {u1 : Int} {u2 : Bool} {u3 : (List dTxn)} (h0 : u3.length < 9223372036854775807) {K : (((List dTxn) × Int × Bool × (List dTxn) × Int × Int) ⊕ ((List dTxn) × Int × Bool × (List dTxn) × Int × Int)) → Option Res}  : loopK impl_idsUnlike_b0 Fuel (u0, u1, u2, u3, (u3.length : Int), (0 : Int)) K = impl_idsUnlike_w0 u0 u1 u2 u3 u3  0 (Sum.elim (fun z => K (.inl (u0, u1, z.1, u3, (u3.length : Int), z.2))) (fun z => K (.inr (u0, u1, u2, u3, (u3.length : Int), z)))) :=
  impl_idsUnlike_lw0 h0 u3 0  Fuel rfl (lwl_fuel h0)

def impl_idsUnlike_t (a0 : (List dTxn)) (a1 : Int) (k : Bool → Option Res) : Option Res :=
  impl_idsUnlike_w0 a0 a1 false a0 a0  0 (Sum.elim (fun z9 =>
    k z9.1) (fun _ =>
    k true))

theorem impl_idsUnlike_r {a0 : (List dTxn)} {a1 : Int} (h0 : a0.length < 9223372036854775807) {k : Bool → Option Res} : impl_idsUnlike_k a0 a1 k = impl_idsUnlike_t a0 a1 k := by
  rw [impl_idsUnlike_e]
  simp only [impl_idsUnlike_d, impl_idsUnlike_t, (impl_idsUnlike_lz0 h0), Sum.elim_inl, Sum.elim_inr]

def impl_BaseOk_w0 (u0 : Bool) (u1 : (List dVersion)) (u4 : (List dVersion)) (u5 : (List dTxn)) (u6 : (List dTxn)) (u7 : Int) (u8 : Int) : List dVersion → Nat → (((Bool × Int) ⊕ Int) → Option Res) → Option Res
  | [], i, k =>
    k (.inr (i : Int))
  | y :: l, i, k =>
    bif (decide (y.2.2.2 > u7)) then
      k (.inl (false, (i : Int)))
    else
      impl_BaseOk_w0 u0 u1 u4 u5 u6 u7 u8 l (i + 1) k

theorem impl_BaseOk_lw0 {u0 : Bool} {u1 : (List dVersion)} {u4 : (List dVersion)} {u5 : (List dTxn)} {u6 : (List dTxn)} {u7 : Int} {u8 : Int} (h0 : u1.length < 9223372036854775807) {K : ((Bool × (List dVersion) × Int × Int × (List dVersion) × (List dTxn) × (List dTxn) × Int × Int) ⊕ (Bool × (List dVersion) × Int × Int × (List dVersion) × (List dTxn) × (List dTxn) × Int × Int)) → Option Res} : ∀ (l : List dVersion) (i : Nat)  (n : Nat), u1.drop i = l → l.length < n → loopK impl_BaseOk_b0 n (u0, u1, (u1.length : Int), (i : Int), u4, u5, u6, u7, u8) K = impl_BaseOk_w0 u0 u1 u4 u5 u6 u7 u8 l  i (Sum.elim (fun z => K (.inl (z.1, u1, (u1.length : Int), z.2, u4, u5, u6, u7, u8))) (fun z => K (.inr (u0, u1, (u1.length : Int), z, u4, u5, u6, u7, u8)))) := by
  intro l
  induction l with
  | nil =>
    intro i  n hd hn
    have hge := lwl_nil hd
    cases n with
    | zero => exact absurd hn (Nat.not_lt_zero _)
    | succ n => simp only [loopK, impl_BaseOk_b0, impl_BaseOk_w0, hge, decide_false, cond_false, Sum.elim_inr, Sum.elim_inl]
  | cons y l ih =>
    intro i  n hd hn
    obtain ⟨hlt, hz, hd2, hw, hnn⟩ := lwl_cons hd h0
    have hy := lwl_get hd
    cases n with
    | zero => exact absurd hn (Nat.not_lt_zero _)
    | succ n =>
      have ih2 := ih (i + 1)  n hd2 (Nat.lt_of_succ_lt_succ hn)
      simp only [loopK, impl_BaseOk_b0, impl_BaseOk_w0, hlt, hz, decide_true, cond_true, and_self, if_true, hy, hw, hnn, Sum.elim_inl, Sum.elim_inr, ih2]

theorem impl_BaseOk_lz0 {u0 : Bool} {u1 : (List dVersion)} {u4 : (List dVersion)} {u5 : (List dTxn)} {u6 : (List dTxn)} {u7 : Int} {u8 : Int} (h0 : u1.length < 9223372036854775807) {K : ((Bool × (List dVersion) × Int × Int × (List dVersion) × (List dTxn) × (List dTxn) × Int × Int) ⊕ (Bool × (List dVersion) × Int × Int × (List dVersion) × (List dTxn) × (List dTxn) × Int × Int)) → Option Res}  : loopK impl_BaseOk_b0 Fuel (u0, u1, (u1.length : Int), (0 : Int), u4, u5, u6, u7, u8) K = impl_BaseOk_w0 u0 u1 u4 u5 u6 u7 u8 u1  0 (Sum.elim (fun z => K (.inl (z.1, u1, (u1.length : Int), z.2, u4, u5, u6, u7, u8))) (fun z => K (.inr (u0, u1, (u1.length : Int), z, u4, u5, u6, u7, u8)))) :=
  impl_BaseOk_lw0 h0 u1 0  Fuel rfl (lwl_fuel h0)

def impl_BaseOk_w2 (u0 : Bool) (u1 : (List dTxn)) (u4 : (List dVersion)) (u5 : (List dTxn)) (u6 : (List dTxn)) (u7 : Int) (u8 : Int) : List dTxn → Nat → (((Bool × Int) ⊕ Int) → Option Res) → Option Res
  | [], i, k =>
    k (.inr (i : Int))
  | y :: l, i, k =>
    impl_TxnOk_k y (fun y1 =>
      bif (!y1) then
        k (.inl (false, (i : Int)))
      else
        impl_isDone_k y (fun y2 =>
          bif (!y2) then
            k (.inl (false, (i : Int)))
          else
            bif (decide (y.2.2.2.1 > u7)) then
              k (.inl (false, (i : Int)))
            else
              bif (decide ((i : Int) > (0 : Int))) then
                if 0 ≤ (IntKind.wrap .i64 ((i : Int) - (1 : Int))) ∧ (IntKind.wrap .i64 ((i : Int) - (1 : Int))) < (u5.length : Int) then
                  bif (decide ((rd (Ty.zero tTxn) u5 (IntKind.wrap .i64 ((i : Int) - (1 : Int)))).2.2.2.1 ≥ y.2.2.2.1)) then
                    k (.inl (false, (i : Int)))
                  else
                    impl_BaseOk_w2 u0 u1 u4 u5 u6 u7 u8 l (i + 1) k
                else none
              else
                impl_BaseOk_w2 u0 u1 u4 u5 u6 u7 u8 l (i + 1) k))

theorem impl_BaseOk_lw2 {u0 : Bool} {u1 : (List dTxn)} {u4 : (List dVersion)} {u5 : (List dTxn)} {u6 : (List dTxn)} {u7 : Int} {u8 : Int} (h0 : u1.length < 9223372036854775807) {K : ((Bool × (List dTxn) × Int × Int × (List dVersion) × (List dTxn) × (List dTxn) × Int × Int) ⊕ (Bool × (List dTxn) × Int × Int × (List dVersion) × (List dTxn) × (List dTxn) × Int × Int)) → Option Res} : ∀ (l : List dTxn) (i : Nat)  (n : Nat), u1.drop i = l → l.length < n → loopK impl_BaseOk_b2 n (u0, u1, (u1.length : Int), (i : Int), u4, u5, u6, u7, u8) K = impl_BaseOk_w2 u0 u1 u4 u5 u6 u7 u8 l  i (Sum.elim (fun z => K (.inl (z.1, u1, (u1.length : Int), z.2, u4, u5, u6, u7, u8))) (fun z => K (.inr (u0, u1, (u1.length : Int), z, u4, u5, u6, u7, u8)))) := by
  intro l
  induction l with
  | nil =>
    intro i  n hd hn
    have hge := lwl_nil hd
    cases n with
    | zero => exact absurd hn (Nat.not_lt_zero _)
    | succ n => simp only [loopK, impl_BaseOk_b2, impl_BaseOk_w2, hge, decide_false, cond_false, Sum.elim_inr, Sum.elim_inl]
  | cons y l ih =>
    intro i  n hd hn
    obtain ⟨hlt, hz, hd2, hw, hnn⟩ := lwl_cons hd h0
    have hy := lwl_get hd
    cases n with
    | zero => exact absurd hn (Nat.not_lt_zero _)
    | succ n =>
      have ih2 := ih (i + 1)  n hd2 (Nat.lt_of_succ_lt_succ hn)
      simp only [loopK, impl_BaseOk_b2, impl_BaseOk_w2, hlt, hz, decide_true, cond_true, and_self, if_true, hy, hw, hnn, Sum.elim_inl, Sum.elim_inr, ih2]

theorem impl_BaseOk_lz2 {u0 : Bool} {u1 : (List dTxn)} {u4 : (List dVersion)} {u5 : (List dTxn)} {u6 : (List dTxn)} {u7 : Int} {u8 : Int} (h0 : u1.length < 9223372036854775807) {K : ((Bool × (List dTxn) × Int × Int × (List dVersion) × (List dTxn) × (List dTxn) × Int × Int) ⊕ (Bool × (List dTxn) × Int × Int × (List dVersion) × (List dTxn) × (List dTxn) × Int × Int)) → Option Res}  : loopK impl_BaseOk_b2 Fuel (u0, u1, (u1.length : Int), (0 : Int), u4, u5, u6, u7, u8) K = impl_BaseOk_w2 u0 u1 u4 u5 u6 u7 u8 u1  0 (Sum.elim (fun z => K (.inl (z.1, u1, (u1.length : Int), z.2, u4, u5, u6, u7, u8))) (fun z => K (.inr (u0, u1, (u1.length : Int), z, u4, u5, u6, u7, u8)))) :=
  impl_BaseOk_lw2 h0 u1 0  Fuel rfl (lwl_fuel h0)

def impl_BaseOk_w4 (u0 : Bool) (u1 : (List dTxn)) (u4 : (List dVersion)) (u5 : (List dTxn)) (u6 : (List dTxn)) (u7 : Int) (u8 : Int) : List dTxn → Nat → (((Bool × Int) ⊕ Int) → Option Res) → Option Res
  | [], i, k =>
    k (.inr (i : Int))
  | y :: l, i, k =>
    impl_TxnOk_k y (fun y1 =>
      bif (!y1) then
        k (.inl (false, (i : Int)))
      else
        impl_isReady_k y (fun y2 =>
          bif (!y2) then
            k (.inl (false, (i : Int)))
          else
            bif (decide (y.2.2.1 > u7)) then
              k (.inl (false, (i : Int)))
            else
              bif (decide ((i : Int) > (0 : Int))) then
                if 0 ≤ (IntKind.wrap .i64 ((i : Int) - (1 : Int))) ∧ (IntKind.wrap .i64 ((i : Int) - (1 : Int))) < (u6.length : Int) then
                  bif (!(strLess ((rd (Ty.zero tTxn) u6 (IntKind.wrap .i64 ((i : Int) - (1 : Int)))).2.2.2.2.2.2.2) (y.2.2.2.2.2.2.2))) then
                    k (.inl (false, (i : Int)))
                  else
                    impl_BaseOk_w4 u0 u1 u4 u5 u6 u7 u8 l (i + 1) k
                else none
              else
                impl_BaseOk_w4 u0 u1 u4 u5 u6 u7 u8 l (i + 1) k))

theorem impl_BaseOk_lw4 {u0 : Bool} {u1 : (List dTxn)} {u4 : (List dVersion)} {u5 : (List dTxn)} {u6 : (List dTxn)} {u7 : Int} {u8 : Int} (h0 : u1.length < 9223372036854775807) {K : ((Bool × (List dTxn) × Int × Int × (List dVersion) × (List dTxn) × (List dTxn) × Int × Int) ⊕ (Bool × (List dTxn) × Int × Int × (List dVersion) × (List dTxn) × (List dTxn) × Int × Int)) → Option Res} : ∀ (l : List dTxn) (i : Nat)  (n : Nat), u1.drop i = l → l.length < n → loopK impl_BaseOk_b4 n (u0, u1, (u1.length : Int), (i : Int), u4, u5, u6, u7, u8) K = impl_BaseOk_w4 u0 u1 u4 u5 u6 u7 u8 l  i (Sum.elim (fun z => K (.inl (z.1, u1, (u1.length : Int), z.2, u4, u5, u6, u7, u8))) (fun z => K (.inr (u0, u1, (u1.length : Int), z, u4, u5, u6, u7, u8)))) := by
  intro l
  induction l with
  | nil =>
    intro i  n hd hn
    have hge := lwl_nil hd
    cases n with
    | zero => exact absurd hn (Nat.not_lt_zero _)
    | succ n => simp only [loopK, impl_BaseOk_b4, impl_BaseOk_w4, hge, decide_false, cond_false, Sum.elim_inr, Sum.elim_inl]
  | cons y l ih =>
    intro i  n hd hn
    obtain ⟨hlt, hz, hd2, hw, hnn⟩ := lwl_cons hd h0
    have hy := lwl_get hd
    cases n with
    | zero => exact absurd hn (Nat.not_lt_zero _)
    | succ n =>
      have ih2 := ih (i + 1)  n hd2 (Nat.lt_of_succ_lt_succ hn)
      simp only [loopK, impl_BaseOk_b4, impl_BaseOk_w4, hlt, hz, decide_true, cond_true, and_self, if_true, hy, hw, hnn, Sum.elim_inl, Sum.elim_inr, ih2]

theorem impl_BaseOk_lz4 {u0 : Bool} {u1 : (List dTxn)} {u4 : (List dVersion)} {u5 : (List dTxn)} {u6 : (List dTxn)} {u7 : Int} {u8 : Int} (h0 : u1.length < 9223372036854775807) {K : ((Bool × (List dTxn) × Int × Int × (List dVersion) × (List dTxn) × (List dTxn) × Int × Int) ⊕ (Bool × (List dTxn) × Int × Int × (List dVersion) × (List dTxn) × (List dTxn) × Int × Int)) → Option Res}  : loopK impl_BaseOk_b4 Fuel (u0, u1, (u1.length : Int), (0 : Int), u4, u5, u6, u7, u8) K = impl_BaseOk_w4 u0 u1 u4 u5 u6 u7 u8 u1  0 (Sum.elim (fun z => K (.inl (z.1, u1, (u1.length : Int), z.2, u4, u5, u6, u7, u8))) (fun z => K (.inr (u0, u1, (u1.length : Int), z, u4, u5, u6, u7, u8)))) :=
  impl_BaseOk_lw4 h0 u1 0  Fuel rfl (lwl_fuel h0)

def impl_BaseOk_wj5000003 (u0 : Bool) (u1 : (List dVersion)) (u2 : (List dTxn)) (u3 : (List dTxn)) (u4 : Int) (u5 : Int) (k : Bool → Option Res) : Option Res :=
    impl_BaseOk_w0 u0 u1 u1 u2 u3 u4 u5 u1  0 (Sum.elim (fun z1 =>
      k z1.1) (fun _ =>
      impl_BaseOk_w2 u0 u2 u1 u2 u3 u4 u5 u2  0 (Sum.elim (fun z3 =>
        k z3.1) (fun _ =>
        impl_BaseOk_w4 u0 u3 u1 u2 u3 u4 u5 u3  0 (Sum.elim (fun z5 =>
          k z5.1) (fun _ =>
          slices_Concat_Txn_k [u2, u3] (fun y7 =>
            impl_idsUnlike_k y7 u5 (fun y8 =>
              k y8))))))))

theorem impl_BaseOk_wz5000003 {u0 : Bool} {u1 : (List dVersion)} {u2 : (List dTxn)} {u3 : (List dTxn)} {u4 : Int} {u5 : Int} (h0 : u3.length < 9223372036854775807) (h1 : u2.length < 9223372036854775807) (h2 : u1.length < 9223372036854775807) {K : (Bool × (List dVersion) × (List dTxn) × (List dTxn) × Int × Int) → Option Res} : impl_BaseOk_j5000003 (u0, u1, u2, u3, u4, u5) K = impl_BaseOk_wj5000003 u0 u1 u2 u3 u4 u5 (fun z => K (z, u1, u2, u3, u4, u5)) := by
  simp only [impl_BaseOk_j5000003, impl_BaseOk_wj5000003, (impl_BaseOk_lz4 h0), (impl_BaseOk_lz2 h1), (impl_BaseOk_lz0 h2), Sum.elim_inl, Sum.elim_inr]

def impl_BaseOk_t (a0 : dBase) (k : Bool → Option Res) : Option Res :=
  impl_VersionsOk_k a0.1 (fun y9 =>
    bif (!y9) then
      k false
    else
      bif (decide ((a0.2.1.length : Int) > (12 : Int))) then
        k false
      else
        bif (decide ((a0.2.2.1.length : Int) > (3 : Int))) then
          k false
        else
          impl_within_k a0.2.2.2.1 (0 : Int) (9999 : Int) (fun y10 =>
            bif (!y10) then
              k false
            else
              impl_within_k a0.2.2.2.2 (1 : Int) (9999 : Int) (fun y11 =>
                bif (!y11) then
                  k false
                else
                  impl_BaseOk_wj5000003 false a0.1 a0.2.1 a0.2.2.1 a0.2.2.2.1 a0.2.2.2.2 (fun z12 =>
                    k z12))))

theorem impl_BaseOk_r {a0 : dBase} (h0 : a0.2.2.1.length < 9223372036854775807) (h1 : a0.2.1.length < 9223372036854775807) (h2 : a0.1.length < 9223372036854775807) {k : Bool → Option Res} : impl_BaseOk_k a0 k = impl_BaseOk_t a0 k := by
  rw [impl_BaseOk_e]
  simp only [impl_BaseOk_d, impl_BaseOk_t, (impl_BaseOk_wz5000003 h0 h1 h2), Sum.elim_inl, Sum.elim_inr]

def impl_VarText_t (a0 : Int) (k : (ByteArray × Bool) → Option Res) : Option Res :=
  impl_within_k a0 (0 : Int) (1000000000 : Int) (fun y9 =>
    bif (!y9) then
      k ((⟨#[]⟩ : ByteArray), false)
    else
      loopK impl_VarText_b0 Fuel (a0, ([] : List Int)) (fun z10 =>
        if z10.2.length + [(IntKind.wrap .u8 z10.1)].length ≤ VE.maxLen then
          k ((bytesOf (z10.2 ++ [(IntKind.wrap .u8 z10.1)])), true)
        else none))

theorem impl_VarText_r {a0 : Int}  {k : (ByteArray × Bool) → Option Res} : impl_VarText_k a0 k = impl_VarText_t a0 k := by
  rw [impl_VarText_e]
  simp only [impl_VarText_d, impl_VarText_t, Sum.elim_inl, Sum.elim_inr]

def impl_plan_num_w0 (u0 : (List Int)) : List Int → (List Int) → Nat → ((Int × (List Int)) → Option Res) → Option Res
  | [], s3, i, k =>
    k ((i : Int), s3)
  | y :: l, s3, i, k =>
    impl_VarText_k y (fun y1 =>
      if s3.length + (intsOf y1.1).length ≤ VE.maxLen then
        impl_plan_num_w0 u0 l (s3 ++ (intsOf y1.1)) (i + 1) k
      else none)

theorem impl_plan_num_lw0 {u0 : (List Int)} (h0 : u0.length < 9223372036854775807) {K : ((List Int) × Int × Int × (List Int)) → Option Res} : ∀ (l : List Int) (i : Nat) (s3 : (List Int)) (n : Nat), u0.drop i = l → l.length < n → loopK impl_plan_num_b0 n (u0, (u0.length : Int), (i : Int), s3) K = impl_plan_num_w0 u0 l s3 i (fun z => K (u0, (u0.length : Int), z.1, z.2)) := by
  intro l
  induction l with
  | nil =>
    intro i s3 n hd hn
    have hge := lwl_nil hd
    cases n with
    | zero => exact absurd hn (Nat.not_lt_zero _)
    | succ n => simp only [loopK, impl_plan_num_b0, impl_plan_num_w0, hge, decide_false, cond_false, Sum.elim_inr, Sum.elim_inl]
  | cons y l ih =>
    intro i s3 n hd hn
    obtain ⟨hlt, hz, hd2, hw, hnn⟩ := lwl_cons hd h0
    have hy := lwl_get hd
    cases n with
    | zero => exact absurd hn (Nat.not_lt_zero _)
    | succ n =>
      have ih2 := fun (s3 : (List Int)) => ih (i + 1) s3 n hd2 (Nat.lt_of_succ_lt_succ hn)
      simp only [loopK, impl_plan_num_b0, impl_plan_num_w0, hlt, hz, decide_true, cond_true, and_self, if_true, hy, hw, hnn, Sum.elim_inl, Sum.elim_inr, ih2]

theorem impl_plan_num_lz0 {u0 : (List Int)} (h0 : u0.length < 9223372036854775807) {K : ((List Int) × Int × Int × (List Int)) → Option Res} {s3 : (List Int)} : loopK impl_plan_num_b0 Fuel (u0, (u0.length : Int), (0 : Int), s3) K = impl_plan_num_w0 u0 u0 s3 0 (fun z => K (u0, (u0.length : Int), z.1, z.2)) :=
  impl_plan_num_lw0 h0 u0 0 s3 Fuel rfl (lwl_fuel h0)

def impl_plan_num_t (a0 : (List Int)) (k : (List Int) → Option Res) : Option Res :=
  impl_plan_num_w0 a0 a0 ([] : List Int) 0 (fun z9 =>
    k z9.2)

theorem impl_plan_num_r {a0 : (List Int)} (h0 : a0.length < 9223372036854775807) {k : (List Int) → Option Res} : impl_plan_num_k a0 k = impl_plan_num_t a0 k := by
  rw [impl_plan_num_e]
  simp only [impl_plan_num_d, impl_plan_num_t, (impl_plan_num_lz0 h0), Sum.elim_inl, Sum.elim_inr]

def impl_plan_text_t (a0 : (List ByteArray)) (a1 : (List Int)) (k : ((List Int) ⊕ (List Int)) → Option Res) : Option Res :=
  loopK impl_plan_text_b0 Fuel (.inl (a0, (a0.length : Int), (0 : Int), a1)) (Sum.elim (fun z9 =>
    k (.inl z9.2.2.2)) (fun z10 =>
    k (.inr z10.2.2.2)))

theorem impl_plan_text_r {a0 : (List ByteArray)} {a1 : (List Int)}  {k : ((List Int) ⊕ (List Int)) → Option Res} : impl_plan_text_k a0 a1 k = impl_plan_text_t a0 a1 k := by
  rw [impl_plan_text_e]
  simp only [impl_plan_text_d, impl_plan_text_t, Sum.elim_inl, Sum.elim_inr]

def impl_plan_flag_wj5000003 (u0 : Int) (u1 : (List Int)) (k : (List Int) → Option Res) : Option Res :=
    if u1.length + [u0].length ≤ VE.maxLen then
      k (u1 ++ [u0])
    else none

theorem impl_plan_flag_wz5000003 {u0 : Int} {u1 : (List Int)}  {K : (Int × (List Int)) → Option Res} : impl_plan_flag_j5000003 (u0, u1) K = impl_plan_flag_wj5000003 u0 u1 (fun z => K (u0, z)) := by
  simp only [impl_plan_flag_j5000003, impl_plan_flag_wj5000003, Sum.elim_inl, Sum.elim_inr]

def impl_plan_flag_t (a0 : Bool) (a1 : (List Int)) (k : (List Int) → Option Res) : Option Res :=
  bif a0 then
    impl_plan_flag_wj5000003 (1 : Int) a1 (fun z9 =>
      k z9)
  else
    impl_plan_flag_wj5000003 (0 : Int) a1 (fun z10 =>
      k z10)

theorem impl_plan_flag_r {a0 : Bool} {a1 : (List Int)}  {k : (List Int) → Option Res} : impl_plan_flag_k a0 a1 k = impl_plan_flag_t a0 a1 k := by
  rw [impl_plan_flag_e]
  simp only [impl_plan_flag_d, impl_plan_flag_t, impl_plan_flag_wz5000003, Sum.elim_inl, Sum.elim_inr]

def impl_plan_num_61bd_t (a0 : (List Int)) (a1 : (List Int)) (k : ((List Int) ⊕ (List Int)) → Option Res) : Option Res :=
  loopK impl_plan_num_61bd_b0 Fuel (.inl (a0, (a0.length : Int), (0 : Int), a1)) (Sum.elim (fun z9 =>
    k (.inl z9.2.2.2)) (fun z10 =>
    k (.inr z10.2.2.2)))

theorem impl_plan_num_61bd_r {a0 : (List Int)} {a1 : (List Int)}  {k : ((List Int) ⊕ (List Int)) → Option Res} : impl_plan_num_61bd_k a0 a1 k = impl_plan_num_61bd_t a0 a1 k := by
  rw [impl_plan_num_61bd_e]
  simp only [impl_plan_num_61bd_d, impl_plan_num_61bd_t, Sum.elim_inl, Sum.elim_inr]

def impl_TxnText_w0 (u0 : (List dRange)) (u3 : Int) (u4 : Int) (u5 : Int) (u6 : Int) (u7 : (List dRange)) (u8 : (List dWrite)) (u9 : Bool) (u10 : ByteArray) : List dRange → (List Int) → Nat → ((Int × (List Int)) → Option Res) → Option Res
  | [], s11, i, k =>
    k ((i : Int), s11)
  | y :: l, s11, i, k =>
    impl_plan_text_k [y.1, y.2] s11 (Sum.elim (fun y1 =>
      impl_TxnText_w0 u0 u3 u4 u5 u6 u7 u8 u9 u10 l y1 (i + 1) k) (fun y2 =>
      impl_TxnText_w0 u0 u3 u4 u5 u6 u7 u8 u9 u10 l y2 (i + 1) k))

theorem impl_TxnText_lw0 {u0 : (List dRange)} {u3 : Int} {u4 : Int} {u5 : Int} {u6 : Int} {u7 : (List dRange)} {u8 : (List dWrite)} {u9 : Bool} {u10 : ByteArray} (h0 : u0.length < 9223372036854775807) {K : ((List dRange) × Int × Int × Int × Int × Int × Int × (List dRange) × (List dWrite) × Bool × ByteArray × (List Int)) → Option Res} : ∀ (l : List dRange) (i : Nat) (s11 : (List Int)) (n : Nat), u0.drop i = l → l.length < n → loopK impl_TxnText_b0 n (u0, (u0.length : Int), (i : Int), u3, u4, u5, u6, u7, u8, u9, u10, s11) K = impl_TxnText_w0 u0 u3 u4 u5 u6 u7 u8 u9 u10 l s11 i (fun z => K (u0, (u0.length : Int), z.1, u3, u4, u5, u6, u7, u8, u9, u10, z.2)) := by
  intro l
  induction l with
  | nil =>
    intro i s11 n hd hn
    have hge := lwl_nil hd
    cases n with
    | zero => exact absurd hn (Nat.not_lt_zero _)
    | succ n => simp only [loopK, impl_TxnText_b0, impl_TxnText_w0, hge, decide_false, cond_false, Sum.elim_inr, Sum.elim_inl]
  | cons y l ih =>
    intro i s11 n hd hn
    obtain ⟨hlt, hz, hd2, hw, hnn⟩ := lwl_cons hd h0
    have hy := lwl_get hd
    cases n with
    | zero => exact absurd hn (Nat.not_lt_zero _)
    | succ n =>
      have ih2 := fun (s11 : (List Int)) => ih (i + 1) s11 n hd2 (Nat.lt_of_succ_lt_succ hn)
      simp only [loopK, impl_TxnText_b0, impl_TxnText_w0, hlt, hz, decide_true, cond_true, and_self, if_true, hy, hw, hnn, Sum.elim_inl, Sum.elim_inr, ih2]

theorem impl_TxnText_lz0 {u0 : (List dRange)} {u3 : Int} {u4 : Int} {u5 : Int} {u6 : Int} {u7 : (List dRange)} {u8 : (List dWrite)} {u9 : Bool} {u10 : ByteArray} (h0 : u0.length < 9223372036854775807) {K : ((List dRange) × Int × Int × Int × Int × Int × Int × (List dRange) × (List dWrite) × Bool × ByteArray × (List Int)) → Option Res} {s11 : (List Int)} : loopK impl_TxnText_b0 Fuel (u0, (u0.length : Int), (0 : Int), u3, u4, u5, u6, u7, u8, u9, u10, s11) K = impl_TxnText_w0 u0 u3 u4 u5 u6 u7 u8 u9 u10 u0 s11 0 (fun z => K (u0, (u0.length : Int), z.1, u3, u4, u5, u6, u7, u8, u9, u10, z.2)) :=
  impl_TxnText_lw0 h0 u0 0 s11 Fuel rfl (lwl_fuel h0)

def impl_TxnText_w2 (u0 : (List dWrite)) (u3 : Int) (u4 : Int) (u5 : Int) (u6 : Int) (u7 : (List dRange)) (u8 : (List dWrite)) (u9 : Bool) (u10 : ByteArray) : List dWrite → (List Int) → Nat → ((Int × (List Int)) → Option Res) → Option Res
  | [], s11, i, k =>
    k ((i : Int), s11)
  | y :: l, s11, i, k =>
    impl_plan_text_k [y.1, y.2.1] s11 (Sum.elim (fun y1 =>
      impl_plan_flag_k y.2.2 y1 (fun y2 =>
        impl_TxnText_w2 u0 u3 u4 u5 u6 u7 u8 u9 u10 l y2 (i + 1) k)) (fun y3 =>
      impl_plan_flag_k y.2.2 y3 (fun y4 =>
        impl_TxnText_w2 u0 u3 u4 u5 u6 u7 u8 u9 u10 l y4 (i + 1) k)))

theorem impl_TxnText_lw2 {u0 : (List dWrite)} {u3 : Int} {u4 : Int} {u5 : Int} {u6 : Int} {u7 : (List dRange)} {u8 : (List dWrite)} {u9 : Bool} {u10 : ByteArray} (h0 : u0.length < 9223372036854775807) {K : ((List dWrite) × Int × Int × Int × Int × Int × Int × (List dRange) × (List dWrite) × Bool × ByteArray × (List Int)) → Option Res} : ∀ (l : List dWrite) (i : Nat) (s11 : (List Int)) (n : Nat), u0.drop i = l → l.length < n → loopK impl_TxnText_b2 n (u0, (u0.length : Int), (i : Int), u3, u4, u5, u6, u7, u8, u9, u10, s11) K = impl_TxnText_w2 u0 u3 u4 u5 u6 u7 u8 u9 u10 l s11 i (fun z => K (u0, (u0.length : Int), z.1, u3, u4, u5, u6, u7, u8, u9, u10, z.2)) := by
  intro l
  induction l with
  | nil =>
    intro i s11 n hd hn
    have hge := lwl_nil hd
    cases n with
    | zero => exact absurd hn (Nat.not_lt_zero _)
    | succ n => simp only [loopK, impl_TxnText_b2, impl_TxnText_w2, hge, decide_false, cond_false, Sum.elim_inr, Sum.elim_inl]
  | cons y l ih =>
    intro i s11 n hd hn
    obtain ⟨hlt, hz, hd2, hw, hnn⟩ := lwl_cons hd h0
    have hy := lwl_get hd
    cases n with
    | zero => exact absurd hn (Nat.not_lt_zero _)
    | succ n =>
      have ih2 := fun (s11 : (List Int)) => ih (i + 1) s11 n hd2 (Nat.lt_of_succ_lt_succ hn)
      simp only [loopK, impl_TxnText_b2, impl_TxnText_w2, hlt, hz, decide_true, cond_true, and_self, if_true, hy, hw, hnn, Sum.elim_inl, Sum.elim_inr, ih2]

theorem impl_TxnText_lz2 {u0 : (List dWrite)} {u3 : Int} {u4 : Int} {u5 : Int} {u6 : Int} {u7 : (List dRange)} {u8 : (List dWrite)} {u9 : Bool} {u10 : ByteArray} (h0 : u0.length < 9223372036854775807) {K : ((List dWrite) × Int × Int × Int × Int × Int × Int × (List dRange) × (List dWrite) × Bool × ByteArray × (List Int)) → Option Res} {s11 : (List Int)} : loopK impl_TxnText_b2 Fuel (u0, (u0.length : Int), (0 : Int), u3, u4, u5, u6, u7, u8, u9, u10, s11) K = impl_TxnText_w2 u0 u3 u4 u5 u6 u7 u8 u9 u10 u0 s11 0 (fun z => K (u0, (u0.length : Int), z.1, u3, u4, u5, u6, u7, u8, u9, u10, z.2)) :=
  impl_TxnText_lw2 h0 u0 0 s11 Fuel rfl (lwl_fuel h0)

def impl_TxnText_t (a0 : dTxn) (k : (ByteArray × Bool) → Option Res) : Option Res :=
  impl_TxnOk_k a0 (fun y9 =>
    bif (!y9) then
      k ((⟨#[]⟩ : ByteArray), false)
    else
      impl_plan_num_k [a0.1, a0.2.1, a0.2.2.1, a0.2.2.2.1, (a0.2.2.2.2.1.length : Int)] (fun y10 =>
        impl_TxnText_w0 a0.2.2.2.2.1 a0.1 a0.2.1 a0.2.2.1 a0.2.2.2.1 a0.2.2.2.2.1 a0.2.2.2.2.2.1 a0.2.2.2.2.2.2.1 a0.2.2.2.2.2.2.2 a0.2.2.2.2.1 y10 0 (fun z11 =>
          impl_plan_num_61bd_k [(a0.2.2.2.2.2.1.length : Int)] z11.2 (Sum.elim (fun y12 =>
            impl_TxnText_w2 a0.2.2.2.2.2.1 a0.1 a0.2.1 a0.2.2.1 a0.2.2.2.1 a0.2.2.2.2.1 a0.2.2.2.2.2.1 a0.2.2.2.2.2.2.1 a0.2.2.2.2.2.2.2 a0.2.2.2.2.2.1 y12 0 (fun z13 =>
              impl_plan_flag_k a0.2.2.2.2.2.2.1 z13.2 (fun y14 =>
                impl_plan_text_k [a0.2.2.2.2.2.2.2] y14 (Sum.elim (fun y15 =>
                  k ((bytesOf y15), true)) (fun y16 =>
                  k ((bytesOf y16), true)))))) (fun y17 =>
            impl_TxnText_w2 a0.2.2.2.2.2.1 a0.1 a0.2.1 a0.2.2.1 a0.2.2.2.1 a0.2.2.2.2.1 a0.2.2.2.2.2.1 a0.2.2.2.2.2.2.1 a0.2.2.2.2.2.2.2 a0.2.2.2.2.2.1 y17 0 (fun z18 =>
              impl_plan_flag_k a0.2.2.2.2.2.2.1 z18.2 (fun y19 =>
                impl_plan_text_k [a0.2.2.2.2.2.2.2] y19 (Sum.elim (fun y20 =>
                  k ((bytesOf y20), true)) (fun y21 =>
                  k ((bytesOf y21), true))))))))))

theorem impl_TxnText_r {a0 : dTxn} (h0 : a0.2.2.2.2.2.1.length < 9223372036854775807) (h1 : a0.2.2.2.2.1.length < 9223372036854775807) {k : (ByteArray × Bool) → Option Res} : impl_TxnText_k a0 k = impl_TxnText_t a0 k := by
  rw [impl_TxnText_e]
  simp only [impl_TxnText_d, impl_TxnText_t, (impl_TxnText_lz2 h0), (impl_TxnText_lz0 h1), Sum.elim_inl, Sum.elim_inr]

def impl_BaseText_w0 (u0 : (List dVersion)) (u3 : (List dVersion)) (u4 : (List dTxn)) (u5 : (List dTxn)) (u6 : Int) (u7 : Int) : List dVersion → (List Int) → Nat → ((Int × (List Int)) → Option Res) → Option Res
  | [], s8, i, k =>
    k ((i : Int), s8)
  | y :: l, s8, i, k =>
    impl_plan_text_k [y.1, y.2.1] s8 (Sum.elim (fun y1 =>
      impl_plan_flag_k y.2.2.1 y1 (fun y2 =>
        impl_plan_num_61bd_k [y.2.2.2] y2 (Sum.elim (fun y3 =>
          impl_BaseText_w0 u0 u3 u4 u5 u6 u7 l y3 (i + 1) k) (fun y4 =>
          impl_BaseText_w0 u0 u3 u4 u5 u6 u7 l y4 (i + 1) k)))) (fun y5 =>
      impl_plan_flag_k y.2.2.1 y5 (fun y6 =>
        impl_plan_num_61bd_k [y.2.2.2] y6 (Sum.elim (fun y7 =>
          impl_BaseText_w0 u0 u3 u4 u5 u6 u7 l y7 (i + 1) k) (fun y8 =>
          impl_BaseText_w0 u0 u3 u4 u5 u6 u7 l y8 (i + 1) k)))))

theorem impl_BaseText_lw0 {u0 : (List dVersion)} {u3 : (List dVersion)} {u4 : (List dTxn)} {u5 : (List dTxn)} {u6 : Int} {u7 : Int} (h0 : u0.length < 9223372036854775807) {K : ((List dVersion) × Int × Int × (List dVersion) × (List dTxn) × (List dTxn) × Int × Int × (List Int)) → Option Res} : ∀ (l : List dVersion) (i : Nat) (s8 : (List Int)) (n : Nat), u0.drop i = l → l.length < n → loopK impl_BaseText_b0 n (u0, (u0.length : Int), (i : Int), u3, u4, u5, u6, u7, s8) K = impl_BaseText_w0 u0 u3 u4 u5 u6 u7 l s8 i (fun z => K (u0, (u0.length : Int), z.1, u3, u4, u5, u6, u7, z.2)) := by
  intro l
  induction l with
  | nil =>
    intro i s8 n hd hn
    have hge := lwl_nil hd
    cases n with
    | zero => exact absurd hn (Nat.not_lt_zero _)
    | succ n => simp only [loopK, impl_BaseText_b0, impl_BaseText_w0, hge, decide_false, cond_false, Sum.elim_inr, Sum.elim_inl]
  | cons y l ih =>
    intro i s8 n hd hn
    obtain ⟨hlt, hz, hd2, hw, hnn⟩ := lwl_cons hd h0
    have hy := lwl_get hd
    cases n with
    | zero => exact absurd hn (Nat.not_lt_zero _)
    | succ n =>
      have ih2 := fun (s8 : (List Int)) => ih (i + 1) s8 n hd2 (Nat.lt_of_succ_lt_succ hn)
      simp only [loopK, impl_BaseText_b0, impl_BaseText_w0, hlt, hz, decide_true, cond_true, and_self, if_true, hy, hw, hnn, Sum.elim_inl, Sum.elim_inr, ih2]

theorem impl_BaseText_lz0 {u0 : (List dVersion)} {u3 : (List dVersion)} {u4 : (List dTxn)} {u5 : (List dTxn)} {u6 : Int} {u7 : Int} (h0 : u0.length < 9223372036854775807) {K : ((List dVersion) × Int × Int × (List dVersion) × (List dTxn) × (List dTxn) × Int × Int × (List Int)) → Option Res} {s8 : (List Int)} : loopK impl_BaseText_b0 Fuel (u0, (u0.length : Int), (0 : Int), u3, u4, u5, u6, u7, s8) K = impl_BaseText_w0 u0 u3 u4 u5 u6 u7 u0 s8 0 (fun z => K (u0, (u0.length : Int), z.1, u3, u4, u5, u6, u7, z.2)) :=
  impl_BaseText_lw0 h0 u0 0 s8 Fuel rfl (lwl_fuel h0)

def impl_BaseText_w4 (u0 : Int) (u1 : Int) (u2 : (List dTxn)) (u5 : (List (List dTxn))) : List dTxn → (List Int) → Nat → ((Int × (List Int)) → Option Res) → Option Res
  | [], s6, i, k =>
    k ((i : Int), s6)
  | y :: l, s6, i, k =>
    impl_TxnText_k y (fun y1 =>
      if s6.length + (intsOf y1.1).length ≤ VE.maxLen then
        impl_BaseText_w4 u0 u1 u2 u5 l (s6 ++ (intsOf y1.1)) (i + 1) k
      else none)

theorem impl_BaseText_lw4 {u0 : Int} {u1 : Int} {u2 : (List dTxn)} {u5 : (List (List dTxn))} (h0 : u2.length < 9223372036854775807) {K : (Int × Int × (List dTxn) × Int × Int × (List (List dTxn)) × (List Int)) → Option Res} : ∀ (l : List dTxn) (i : Nat) (s6 : (List Int)) (n : Nat), u2.drop i = l → l.length < n → loopK impl_BaseText_b4 n (u0, u1, u2, (u2.length : Int), (i : Int), u5, s6) K = impl_BaseText_w4 u0 u1 u2 u5 l s6 i (fun z => K (u0, u1, u2, (u2.length : Int), z.1, u5, z.2)) := by
  intro l
  induction l with
  | nil =>
    intro i s6 n hd hn
    have hge := lwl_nil hd
    cases n with
    | zero => exact absurd hn (Nat.not_lt_zero _)
    | succ n => simp only [loopK, impl_BaseText_b4, impl_BaseText_w4, hge, decide_false, cond_false, Sum.elim_inr, Sum.elim_inl]
  | cons y l ih =>
    intro i s6 n hd hn
    obtain ⟨hlt, hz, hd2, hw, hnn⟩ := lwl_cons hd h0
    have hy := lwl_get hd
    cases n with
    | zero => exact absurd hn (Nat.not_lt_zero _)
    | succ n =>
      have ih2 := fun (s6 : (List Int)) => ih (i + 1) s6 n hd2 (Nat.lt_of_succ_lt_succ hn)
      simp only [loopK, impl_BaseText_b4, impl_BaseText_w4, hlt, hz, decide_true, cond_true, and_self, if_true, hy, hw, hnn, Sum.elim_inl, Sum.elim_inr, ih2]

theorem impl_BaseText_lz4 {u0 : Int} {u1 : Int} {u2 : (List dTxn)} {u5 : (List (List dTxn))} (h0 : u2.length < 9223372036854775807) {K : (Int × Int × (List dTxn) × Int × Int × (List (List dTxn)) × (List Int)) → Option Res} {s6 : (List Int)} : loopK impl_BaseText_b4 Fuel (u0, u1, u2, (u2.length : Int), (0 : Int), u5, s6) K = impl_BaseText_w4 u0 u1 u2 u5 u2 s6 0 (fun z => K (u0, u1, u2, (u2.length : Int), z.1, u5, z.2)) :=
  impl_BaseText_lw4 h0 u2 0 s6 Fuel rfl (lwl_fuel h0)

def impl_BaseText_t (a0 : dBase) (k : (ByteArray × Bool) → Option Res) : Option Res :=
  impl_BaseOk_k a0 (fun y9 =>
    bif (!y9) then
      k ((⟨#[]⟩ : ByteArray), false)
    else
      impl_plan_num_k [a0.2.2.2.1, a0.2.2.2.2, (a0.1.length : Int)] (fun y10 =>
        impl_BaseText_w0 a0.1 a0.1 a0.2.1 a0.2.2.1 a0.2.2.2.1 a0.2.2.2.2 a0.1 y10 0 (fun z11 =>
          loopK impl_BaseText_b2 Fuel (([a0.2.1, a0.2.2.1].length : Int), (0 : Int), [a0.2.1, a0.2.2.1], z11.2) (fun z12 =>
            k ((bytesOf z12.2.2.2), true)))))

theorem impl_BaseText_r {a0 : dBase} (h0 : a0.1.length < 9223372036854775807) {k : (ByteArray × Bool) → Option Res} : impl_BaseText_k a0 k = impl_BaseText_t a0 k := by
  rw [impl_BaseText_e]
  simp only [impl_BaseText_d, impl_BaseText_t, (impl_BaseText_lz0 h0), Sum.elim_inl, Sum.elim_inr]

def laws_eqVersionS_w0 (u0 : (List dVersion)) (u1 : (List dVersion)) (u2 : Bool) : List dVersion → Nat → (((Bool × Int) ⊕ Int) → Option Res) → Option Res
  | [], i, k =>
    k (.inr (i : Int))
  | y :: l, i, k =>
    if 0 ≤ (i : Int) ∧ (i : Int) < (u1.length : Int) then
      laws_eqVersion_k y (rd (Ty.zero tVersion) u1 (i : Int)) (fun y1 =>
        bif (!y1) then
          k (.inl (false, (i : Int)))
        else
          laws_eqVersionS_w0 u0 u1 u2 l (i + 1) k)
    else none

theorem laws_eqVersionS_lw0 {u0 : (List dVersion)} {u1 : (List dVersion)} {u2 : Bool} (h0 : u0.length < 9223372036854775807) {K : (((List dVersion) × (List dVersion) × Bool × Int) ⊕ ((List dVersion) × (List dVersion) × Bool × Int)) → Option Res} : ∀ (l : List dVersion) (i : Nat)  (n : Nat), u0.drop i = l → l.length < n → loopK laws_eqVersionS_b0 n (u0, u1, u2, (i : Int)) K = laws_eqVersionS_w0 u0 u1 u2 l  i (Sum.elim (fun z => K (.inl (u0, u1, z.1, z.2))) (fun z => K (.inr (u0, u1, u2, z)))) := by
  intro l
  induction l with
  | nil =>
    intro i  n hd hn
    have hge := lwl_nil hd
    cases n with
    | zero => exact absurd hn (Nat.not_lt_zero _)
    | succ n => simp only [loopK, laws_eqVersionS_b0, laws_eqVersionS_w0, hge, decide_false, cond_false, Sum.elim_inr, Sum.elim_inl]
  | cons y l ih =>
    intro i  n hd hn
    obtain ⟨hlt, hz, hd2, hw, hnn⟩ := lwl_cons hd h0
    have hy := lwl_get hd
    cases n with
    | zero => exact absurd hn (Nat.not_lt_zero _)
    | succ n =>
      have ih2 := ih (i + 1)  n hd2 (Nat.lt_of_succ_lt_succ hn)
      simp only [loopK, laws_eqVersionS_b0, laws_eqVersionS_w0, hlt, hz, decide_true, cond_true, and_self, if_true, hy, hw, hnn, Sum.elim_inl, Sum.elim_inr, ih2]

theorem laws_eqVersionS_lz0 {u0 : (List dVersion)} {u1 : (List dVersion)} {u2 : Bool} (h0 : u0.length < 9223372036854775807) {K : (((List dVersion) × (List dVersion) × Bool × Int) ⊕ ((List dVersion) × (List dVersion) × Bool × Int)) → Option Res}  : loopK laws_eqVersionS_b0 Fuel (u0, u1, u2, (0 : Int)) K = laws_eqVersionS_w0 u0 u1 u2 u0  0 (Sum.elim (fun z => K (.inl (u0, u1, z.1, z.2))) (fun z => K (.inr (u0, u1, u2, z)))) :=
  laws_eqVersionS_lw0 h0 u0 0  Fuel rfl (lwl_fuel h0)

def laws_eqVersionS_t (a0 : (List dVersion)) (a1 : (List dVersion)) (k : Bool → Option Res) : Option Res :=
  bif ((a0.length : Int) != (a1.length : Int)) then
    k false
  else
    laws_eqVersionS_w0 a0 a1 false a0  0 (Sum.elim (fun z9 =>
      k z9.1) (fun _ =>
      k true))

theorem laws_eqVersionS_r {a0 : (List dVersion)} {a1 : (List dVersion)} (h0 : a0.length < 9223372036854775807) {k : Bool → Option Res} : laws_eqVersionS_k a0 a1 k = laws_eqVersionS_t a0 a1 k := by
  rw [laws_eqVersionS_e]
  simp only [laws_eqVersionS_d, laws_eqVersionS_t, (laws_eqVersionS_lz0 h0), Sum.elim_inl, Sum.elim_inr]

def laws_eqRangeS_w0 (u0 : (List dRange)) (u1 : (List dRange)) (u2 : Bool) : List dRange → Nat → (((Bool × Int) ⊕ Int) → Option Res) → Option Res
  | [], i, k =>
    k (.inr (i : Int))
  | y :: l, i, k =>
    if 0 ≤ (i : Int) ∧ (i : Int) < (u1.length : Int) then
      laws_eqRange_k y (rd (Ty.zero tRange) u1 (i : Int)) (fun y1 =>
        bif (!y1) then
          k (.inl (false, (i : Int)))
        else
          laws_eqRangeS_w0 u0 u1 u2 l (i + 1) k)
    else none

theorem laws_eqRangeS_lw0 {u0 : (List dRange)} {u1 : (List dRange)} {u2 : Bool} (h0 : u0.length < 9223372036854775807) {K : (((List dRange) × (List dRange) × Bool × Int) ⊕ ((List dRange) × (List dRange) × Bool × Int)) → Option Res} : ∀ (l : List dRange) (i : Nat)  (n : Nat), u0.drop i = l → l.length < n → loopK laws_eqRangeS_b0 n (u0, u1, u2, (i : Int)) K = laws_eqRangeS_w0 u0 u1 u2 l  i (Sum.elim (fun z => K (.inl (u0, u1, z.1, z.2))) (fun z => K (.inr (u0, u1, u2, z)))) := by
  intro l
  induction l with
  | nil =>
    intro i  n hd hn
    have hge := lwl_nil hd
    cases n with
    | zero => exact absurd hn (Nat.not_lt_zero _)
    | succ n => simp only [loopK, laws_eqRangeS_b0, laws_eqRangeS_w0, hge, decide_false, cond_false, Sum.elim_inr, Sum.elim_inl]
  | cons y l ih =>
    intro i  n hd hn
    obtain ⟨hlt, hz, hd2, hw, hnn⟩ := lwl_cons hd h0
    have hy := lwl_get hd
    cases n with
    | zero => exact absurd hn (Nat.not_lt_zero _)
    | succ n =>
      have ih2 := ih (i + 1)  n hd2 (Nat.lt_of_succ_lt_succ hn)
      simp only [loopK, laws_eqRangeS_b0, laws_eqRangeS_w0, hlt, hz, decide_true, cond_true, and_self, if_true, hy, hw, hnn, Sum.elim_inl, Sum.elim_inr, ih2]

theorem laws_eqRangeS_lz0 {u0 : (List dRange)} {u1 : (List dRange)} {u2 : Bool} (h0 : u0.length < 9223372036854775807) {K : (((List dRange) × (List dRange) × Bool × Int) ⊕ ((List dRange) × (List dRange) × Bool × Int)) → Option Res}  : loopK laws_eqRangeS_b0 Fuel (u0, u1, u2, (0 : Int)) K = laws_eqRangeS_w0 u0 u1 u2 u0  0 (Sum.elim (fun z => K (.inl (u0, u1, z.1, z.2))) (fun z => K (.inr (u0, u1, u2, z)))) :=
  laws_eqRangeS_lw0 h0 u0 0  Fuel rfl (lwl_fuel h0)

def laws_eqRangeS_t (a0 : (List dRange)) (a1 : (List dRange)) (k : Bool → Option Res) : Option Res :=
  bif ((a0.length : Int) != (a1.length : Int)) then
    k false
  else
    laws_eqRangeS_w0 a0 a1 false a0  0 (Sum.elim (fun z9 =>
      k z9.1) (fun _ =>
      k true))

theorem laws_eqRangeS_r {a0 : (List dRange)} {a1 : (List dRange)} (h0 : a0.length < 9223372036854775807) {k : Bool → Option Res} : laws_eqRangeS_k a0 a1 k = laws_eqRangeS_t a0 a1 k := by
  rw [laws_eqRangeS_e]
  simp only [laws_eqRangeS_d, laws_eqRangeS_t, (laws_eqRangeS_lz0 h0), Sum.elim_inl, Sum.elim_inr]

def laws_eqWriteS_w0 (u0 : (List dWrite)) (u1 : (List dWrite)) (u2 : Bool) : List dWrite → Nat → (((Bool × Int) ⊕ Int) → Option Res) → Option Res
  | [], i, k =>
    k (.inr (i : Int))
  | y :: l, i, k =>
    if 0 ≤ (i : Int) ∧ (i : Int) < (u1.length : Int) then
      laws_eqWrite_k y (rd (Ty.zero tWrite) u1 (i : Int)) (fun y1 =>
        bif (!y1) then
          k (.inl (false, (i : Int)))
        else
          laws_eqWriteS_w0 u0 u1 u2 l (i + 1) k)
    else none

theorem laws_eqWriteS_lw0 {u0 : (List dWrite)} {u1 : (List dWrite)} {u2 : Bool} (h0 : u0.length < 9223372036854775807) {K : (((List dWrite) × (List dWrite) × Bool × Int) ⊕ ((List dWrite) × (List dWrite) × Bool × Int)) → Option Res} : ∀ (l : List dWrite) (i : Nat)  (n : Nat), u0.drop i = l → l.length < n → loopK laws_eqWriteS_b0 n (u0, u1, u2, (i : Int)) K = laws_eqWriteS_w0 u0 u1 u2 l  i (Sum.elim (fun z => K (.inl (u0, u1, z.1, z.2))) (fun z => K (.inr (u0, u1, u2, z)))) := by
  intro l
  induction l with
  | nil =>
    intro i  n hd hn
    have hge := lwl_nil hd
    cases n with
    | zero => exact absurd hn (Nat.not_lt_zero _)
    | succ n => simp only [loopK, laws_eqWriteS_b0, laws_eqWriteS_w0, hge, decide_false, cond_false, Sum.elim_inr, Sum.elim_inl]
  | cons y l ih =>
    intro i  n hd hn
    obtain ⟨hlt, hz, hd2, hw, hnn⟩ := lwl_cons hd h0
    have hy := lwl_get hd
    cases n with
    | zero => exact absurd hn (Nat.not_lt_zero _)
    | succ n =>
      have ih2 := ih (i + 1)  n hd2 (Nat.lt_of_succ_lt_succ hn)
      simp only [loopK, laws_eqWriteS_b0, laws_eqWriteS_w0, hlt, hz, decide_true, cond_true, and_self, if_true, hy, hw, hnn, Sum.elim_inl, Sum.elim_inr, ih2]

theorem laws_eqWriteS_lz0 {u0 : (List dWrite)} {u1 : (List dWrite)} {u2 : Bool} (h0 : u0.length < 9223372036854775807) {K : (((List dWrite) × (List dWrite) × Bool × Int) ⊕ ((List dWrite) × (List dWrite) × Bool × Int)) → Option Res}  : loopK laws_eqWriteS_b0 Fuel (u0, u1, u2, (0 : Int)) K = laws_eqWriteS_w0 u0 u1 u2 u0  0 (Sum.elim (fun z => K (.inl (u0, u1, z.1, z.2))) (fun z => K (.inr (u0, u1, u2, z)))) :=
  laws_eqWriteS_lw0 h0 u0 0  Fuel rfl (lwl_fuel h0)

def laws_eqWriteS_t (a0 : (List dWrite)) (a1 : (List dWrite)) (k : Bool → Option Res) : Option Res :=
  bif ((a0.length : Int) != (a1.length : Int)) then
    k false
  else
    laws_eqWriteS_w0 a0 a1 false a0  0 (Sum.elim (fun z9 =>
      k z9.1) (fun _ =>
      k true))

theorem laws_eqWriteS_r {a0 : (List dWrite)} {a1 : (List dWrite)} (h0 : a0.length < 9223372036854775807) {k : Bool → Option Res} : laws_eqWriteS_k a0 a1 k = laws_eqWriteS_t a0 a1 k := by
  rw [laws_eqWriteS_e]
  simp only [laws_eqWriteS_d, laws_eqWriteS_t, (laws_eqWriteS_lz0 h0), Sum.elim_inl, Sum.elim_inr]

def laws_eqTxnS_w0 (u0 : (List dTxn)) (u1 : (List dTxn)) (u2 : Bool) : List dTxn → Nat → (((Bool × Int) ⊕ Int) → Option Res) → Option Res
  | [], i, k =>
    k (.inr (i : Int))
  | y :: l, i, k =>
    if 0 ≤ (i : Int) ∧ (i : Int) < (u1.length : Int) then
      laws_eqTxn_k y (rd (Ty.zero tTxn) u1 (i : Int)) (fun y1 =>
        bif (!y1) then
          k (.inl (false, (i : Int)))
        else
          laws_eqTxnS_w0 u0 u1 u2 l (i + 1) k)
    else none

theorem laws_eqTxnS_lw0 {u0 : (List dTxn)} {u1 : (List dTxn)} {u2 : Bool} (h0 : u0.length < 9223372036854775807) {K : (((List dTxn) × (List dTxn) × Bool × Int) ⊕ ((List dTxn) × (List dTxn) × Bool × Int)) → Option Res} : ∀ (l : List dTxn) (i : Nat)  (n : Nat), u0.drop i = l → l.length < n → loopK laws_eqTxnS_b0 n (u0, u1, u2, (i : Int)) K = laws_eqTxnS_w0 u0 u1 u2 l  i (Sum.elim (fun z => K (.inl (u0, u1, z.1, z.2))) (fun z => K (.inr (u0, u1, u2, z)))) := by
  intro l
  induction l with
  | nil =>
    intro i  n hd hn
    have hge := lwl_nil hd
    cases n with
    | zero => exact absurd hn (Nat.not_lt_zero _)
    | succ n => simp only [loopK, laws_eqTxnS_b0, laws_eqTxnS_w0, hge, decide_false, cond_false, Sum.elim_inr, Sum.elim_inl]
  | cons y l ih =>
    intro i  n hd hn
    obtain ⟨hlt, hz, hd2, hw, hnn⟩ := lwl_cons hd h0
    have hy := lwl_get hd
    cases n with
    | zero => exact absurd hn (Nat.not_lt_zero _)
    | succ n =>
      have ih2 := ih (i + 1)  n hd2 (Nat.lt_of_succ_lt_succ hn)
      simp only [loopK, laws_eqTxnS_b0, laws_eqTxnS_w0, hlt, hz, decide_true, cond_true, and_self, if_true, hy, hw, hnn, Sum.elim_inl, Sum.elim_inr, ih2]

theorem laws_eqTxnS_lz0 {u0 : (List dTxn)} {u1 : (List dTxn)} {u2 : Bool} (h0 : u0.length < 9223372036854775807) {K : (((List dTxn) × (List dTxn) × Bool × Int) ⊕ ((List dTxn) × (List dTxn) × Bool × Int)) → Option Res}  : loopK laws_eqTxnS_b0 Fuel (u0, u1, u2, (0 : Int)) K = laws_eqTxnS_w0 u0 u1 u2 u0  0 (Sum.elim (fun z => K (.inl (u0, u1, z.1, z.2))) (fun z => K (.inr (u0, u1, u2, z)))) :=
  laws_eqTxnS_lw0 h0 u0 0  Fuel rfl (lwl_fuel h0)

def laws_eqTxnS_t (a0 : (List dTxn)) (a1 : (List dTxn)) (k : Bool → Option Res) : Option Res :=
  bif ((a0.length : Int) != (a1.length : Int)) then
    k false
  else
    laws_eqTxnS_w0 a0 a1 false a0  0 (Sum.elim (fun z9 =>
      k z9.1) (fun _ =>
      k true))

theorem laws_eqTxnS_r {a0 : (List dTxn)} {a1 : (List dTxn)} (h0 : a0.length < 9223372036854775807) {k : Bool → Option Res} : laws_eqTxnS_k a0 a1 k = laws_eqTxnS_t a0 a1 k := by
  rw [laws_eqTxnS_e]
  simp only [laws_eqTxnS_d, laws_eqTxnS_t, (laws_eqTxnS_lz0 h0), Sum.elim_inl, Sum.elim_inr]

def laws_FnExactBaseText_wj5000010 (u0 : Bool) (u1 : (List dVersion)) (u2 : (List dTxn)) (u3 : (List dTxn)) (u4 : Int) (u5 : Int) (u6 : Int) (u7 : Int) (u8 : (List dVersion)) (u9 : (List dTxn)) (u10 : (List dTxn)) (k : Bool → Option Res) : Option Res :=
    laws_toBase_k (u1, (u2, (u3, (u4, u5)))) (fun y1 =>
      laws_eqBase_k (u8, (u9, (u10, (u6, u7)))) (y1.2.2.1, (y1.2.2.2.1, (y1.2.2.2.2, (y1.1, y1.2.1)))) (fun y2 =>
        bif (!y2) then
          k false
        else
          k true))

theorem laws_FnExactBaseText_wz5000010 {u0 : Bool} {u1 : (List dVersion)} {u2 : (List dTxn)} {u3 : (List dTxn)} {u4 : Int} {u5 : Int} {u6 : Int} {u7 : Int} {u8 : (List dVersion)} {u9 : (List dTxn)} {u10 : (List dTxn)}  {K : (Bool × (List dVersion) × (List dTxn) × (List dTxn) × Int × Int × Int × Int × (List dVersion) × (List dTxn) × (List dTxn)) → Option Res} : laws_FnExactBaseText_j5000010 (u0, u1, u2, u3, u4, u5, u6, u7, u8, u9, u10) K = laws_FnExactBaseText_wj5000010 u0 u1 u2 u3 u4 u5 u6 u7 u8 u9 u10 (fun z => K (z, u1, u2, u3, u4, u5, u6, u7, u8, u9, u10)) := by
  simp only [laws_FnExactBaseText_j5000010, laws_FnExactBaseText_wj5000010, Sum.elim_inl, Sum.elim_inr]

def laws_FnExactBaseText_t (a0 : dBase) (k : Bool → Option Res) : Option Res :=
  laws_szBase_k a0 (1048576 : Int) (fun y9 =>
    bif (decide (y9 < (0 : Int))) then
      k true
    else
      laws_toBase_k a0 (fun y10 =>
        spec_BaseText_k (y10.2.2.1, (y10.2.2.2.1, (y10.2.2.2.2, (y10.1, y10.2.1)))) (fun y11 =>
          laws_toBase_k a0 (fun y12 =>
            impl_BaseText_k (y12.2.2.1, (y12.2.2.2.1, (y12.2.2.2.2, (y12.1, y12.2.1)))) (fun y13 =>
              bif (!(strEq y13.1 y11.1)) then
                k false
              else
                bif (!(y13.2 == y11.2)) then
                  k false
                else
                  laws_FnExactBaseText_wj5000010 false a0.1 a0.2.1 a0.2.2.1 a0.2.2.2.1 a0.2.2.2.2 y12.1 y12.2.1 y12.2.2.1 y12.2.2.2.1 y12.2.2.2.2 (fun z14 =>
                    k z14))))))

theorem laws_FnExactBaseText_r {a0 : dBase}  {k : Bool → Option Res} : laws_FnExactBaseText_k a0 k = laws_FnExactBaseText_t a0 k := by
  rw [laws_FnExactBaseText_e]
  simp only [laws_FnExactBaseText_d, laws_FnExactBaseText_t, laws_FnExactBaseText_wz5000010, Sum.elim_inl, Sum.elim_inr]

end

end Go.VE
