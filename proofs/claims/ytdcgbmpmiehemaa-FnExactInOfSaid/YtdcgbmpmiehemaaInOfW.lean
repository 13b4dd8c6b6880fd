/- Loops told as recursions over what is left; written by gen.py. -/

import Derived.Test.YtdcgbmpmiehemaaInOfN

import Derived.Test.YtdcgbmpmiehemaaP1

namespace Go.VE

noncomputable section

set_option linter.unusedVariables false
set_option linter.unusedSimpArgs false
set_option maxRecDepth 100000


def laws_szRangeS_w0 (u0 : (List dRange)) (u2 : Int) : List dRange → Int → Nat → (((Int × Int × Int) ⊕ (Int × Int)) → Option Res) → Option Res
  | [], s1, i, k =>
    k (.inr (s1, (i : Int)))
  | y :: l, s1, i, k =>
    laws_szRange_k y s1 (fun y1 =>
      bif (decide (y1 < (0 : Int))) then
        k (.inl (y1, (-1 : Int), (i : Int)))
      else
        laws_szRangeS_w0 u0 u2 l y1 (i + 1) k)

theorem laws_szRangeS_lw0 {u0 : (List dRange)} {u2 : Int} (h0 : u0.length < 9223372036854775807) {K : (((List dRange) × Int × Int × Int) ⊕ ((List dRange) × Int × Int × Int)) → Option Res} : ∀ (l : List dRange) (i : Nat) (s1 : Int) (n : Nat), u0.drop i = l → l.length < n → loopK laws_szRangeS_b0 n (u0, s1, u2, (i : Int)) K = laws_szRangeS_w0 u0 u2 l s1 i (Sum.elim (fun z => K (.inl (u0, z.1, z.2.1, z.2.2))) (fun z => K (.inr (u0, z.1, u2, z.2)))) := by
  intro l
  induction l with
  | nil =>
    intro i s1 n hd hn
    have hge := lwl_nil hd
    cases n with
    | zero => exact absurd hn (Nat.not_lt_zero _)
    | succ n => simp only [loopK, laws_szRangeS_b0, laws_szRangeS_w0, hge, decide_false, cond_false, Sum.elim_inr, Sum.elim_inl]
  | cons y l ih =>
    intro i s1 n hd hn
    obtain ⟨hlt, hz, hd2, hw, hnn⟩ := lwl_cons hd h0
    have hy := lwl_get hd
    cases n with
    | zero => exact absurd hn (Nat.not_lt_zero _)
    | succ n =>
      have ih2 := fun (s1 : Int) => ih (i + 1) s1 n hd2 (Nat.lt_of_succ_lt_succ hn)
      simp only [loopK, laws_szRangeS_b0, laws_szRangeS_w0, hlt, hz, decide_true, cond_true, and_self, if_true, hy, hw, hnn, Sum.elim_inl, Sum.elim_inr, ih2]

theorem laws_szRangeS_lz0 {u0 : (List dRange)} {u2 : Int} (h0 : u0.length < 9223372036854775807) {K : (((List dRange) × Int × Int × Int) ⊕ ((List dRange) × Int × Int × Int)) → Option Res} {s1 : Int} : loopK laws_szRangeS_b0 Fuel (u0, s1, u2, (0 : Int)) K = laws_szRangeS_w0 u0 u2 u0 s1 0 (Sum.elim (fun z => K (.inl (u0, z.1, z.2.1, z.2.2))) (fun z => K (.inr (u0, z.1, u2, z.2)))) :=
  laws_szRangeS_lw0 h0 u0 0 s1 Fuel rfl (lwl_fuel h0)

def laws_szRangeS_t (a0 : (List dRange)) (a1 : Int) (k : Int → Option Res) : Option Res :=
  bif (decide ((IntKind.wrap .i64 (a1 - (a0.length : Int))) < (0 : Int))) then
    k (-1 : Int)
  else
    laws_szRangeS_w0 a0 (0 : Int) a0 (IntKind.wrap .i64 (a1 - (a0.length : Int))) 0 (Sum.elim (fun z13 =>
      k z13.2.1) (fun z14 =>
      k z14.1))

theorem laws_szRangeS_r {a0 : (List dRange)} {a1 : Int} (h0 : a0.length < 9223372036854775807) {k : Int → Option Res} : laws_szRangeS_k a0 a1 k = laws_szRangeS_t a0 a1 k := by
  rw [laws_szRangeS_e]
  simp only [laws_szRangeS_d, laws_szRangeS_t, (laws_szRangeS_lz0 h0), Sum.elim_inl, Sum.elim_inr]

def laws_szWriteS_w0 (u0 : (List dWrite)) (u2 : Int) : List dWrite → Int → Nat → (((Int × Int × Int) ⊕ (Int × Int)) → Option Res) → Option Res
  | [], s1, i, k =>
    k (.inr (s1, (i : Int)))
  | y :: l, s1, i, k =>
    laws_szWrite_k y s1 (fun y1 =>
      bif (decide (y1 < (0 : Int))) then
        k (.inl (y1, (-1 : Int), (i : Int)))
      else
        laws_szWriteS_w0 u0 u2 l y1 (i + 1) k)

theorem laws_szWriteS_lw0 {u0 : (List dWrite)} {u2 : Int} (h0 : u0.length < 9223372036854775807) {K : (((List dWrite) × Int × Int × Int) ⊕ ((List dWrite) × Int × Int × Int)) → Option Res} : ∀ (l : List dWrite) (i : Nat) (s1 : Int) (n : Nat), u0.drop i = l → l.length < n → loopK laws_szWriteS_b0 n (u0, s1, u2, (i : Int)) K = laws_szWriteS_w0 u0 u2 l s1 i (Sum.elim (fun z => K (.inl (u0, z.1, z.2.1, z.2.2))) (fun z => K (.inr (u0, z.1, u2, z.2)))) := by
  intro l
  induction l with
  | nil =>
    intro i s1 n hd hn
    have hge := lwl_nil hd
    cases n with
    | zero => exact absurd hn (Nat.not_lt_zero _)
    | succ n => simp only [loopK, laws_szWriteS_b0, laws_szWriteS_w0, hge, decide_false, cond_false, Sum.elim_inr, Sum.elim_inl]
  | cons y l ih =>
    intro i s1 n hd hn
    obtain ⟨hlt, hz, hd2, hw, hnn⟩ := lwl_cons hd h0
    have hy := lwl_get hd
    cases n with
    | zero => exact absurd hn (Nat.not_lt_zero _)
    | succ n =>
      have ih2 := fun (s1 : Int) => ih (i + 1) s1 n hd2 (Nat.lt_of_succ_lt_succ hn)
      simp only [loopK, laws_szWriteS_b0, laws_szWriteS_w0, hlt, hz, decide_true, cond_true, and_self, if_true, hy, hw, hnn, Sum.elim_inl, Sum.elim_inr, ih2]

theorem laws_szWriteS_lz0 {u0 : (List dWrite)} {u2 : Int} (h0 : u0.length < 9223372036854775807) {K : (((List dWrite) × Int × Int × Int) ⊕ ((List dWrite) × Int × Int × Int)) → Option Res} {s1 : Int} : loopK laws_szWriteS_b0 Fuel (u0, s1, u2, (0 : Int)) K = laws_szWriteS_w0 u0 u2 u0 s1 0 (Sum.elim (fun z => K (.inl (u0, z.1, z.2.1, z.2.2))) (fun z => K (.inr (u0, z.1, u2, z.2)))) :=
  laws_szWriteS_lw0 h0 u0 0 s1 Fuel rfl (lwl_fuel h0)

def laws_szWriteS_t (a0 : (List dWrite)) (a1 : Int) (k : Int → Option Res) : Option Res :=
  bif (decide ((IntKind.wrap .i64 (a1 - (a0.length : Int))) < (0 : Int))) then
    k (-1 : Int)
  else
    laws_szWriteS_w0 a0 (0 : Int) a0 (IntKind.wrap .i64 (a1 - (a0.length : Int))) 0 (Sum.elim (fun z13 =>
      k z13.2.1) (fun z14 =>
      k z14.1))

theorem laws_szWriteS_r {a0 : (List dWrite)} {a1 : Int} (h0 : a0.length < 9223372036854775807) {k : Int → Option Res} : laws_szWriteS_k a0 a1 k = laws_szWriteS_t a0 a1 k := by
  rw [laws_szWriteS_e]
  simp only [laws_szWriteS_d, laws_szWriteS_t, (laws_szWriteS_lz0 h0), Sum.elim_inl, Sum.elim_inr]

def laws_szTxnS_w0 (u0 : (List dTxn)) (u2 : Int) : List dTxn → Int → Nat → (((Int × Int × Int) ⊕ (Int × Int)) → Option Res) → Option Res
  | [], s1, i, k =>
    k (.inr (s1, (i : Int)))
  | y :: l, s1, i, k =>
    laws_szTxn_k y s1 (fun y1 =>
      bif (decide (y1 < (0 : Int))) then
        k (.inl (y1, (-1 : Int), (i : Int)))
      else
        laws_szTxnS_w0 u0 u2 l y1 (i + 1) k)

theorem laws_szTxnS_lw0 {u0 : (List dTxn)} {u2 : Int} (h0 : u0.length < 9223372036854775807) {K : (((List dTxn) × Int × Int × Int) ⊕ ((List dTxn) × Int × Int × Int)) → Option Res} : ∀ (l : List dTxn) (i : Nat) (s1 : Int) (n : Nat), u0.drop i = l → l.length < n → loopK laws_szTxnS_b0 n (u0, s1, u2, (i : Int)) K = laws_szTxnS_w0 u0 u2 l s1 i (Sum.elim (fun z => K (.inl (u0, z.1, z.2.1, z.2.2))) (fun z => K (.inr (u0, z.1, u2, z.2)))) := by
  intro l
  induction l with
  | nil =>
    intro i s1 n hd hn
    have hge := lwl_nil hd
    cases n with
    | zero => exact absurd hn (Nat.not_lt_zero _)
    | succ n => simp only [loopK, laws_szTxnS_b0, laws_szTxnS_w0, hge, decide_false, cond_false, Sum.elim_inr, Sum.elim_inl]
  | cons y l ih =>
    intro i s1 n hd hn
    obtain ⟨hlt, hz, hd2, hw, hnn⟩ := lwl_cons hd h0
    have hy := lwl_get hd
    cases n with
    | zero => exact absurd hn (Nat.not_lt_zero _)
    | succ n =>
      have ih2 := fun (s1 : Int) => ih (i + 1) s1 n hd2 (Nat.lt_of_succ_lt_succ hn)
      simp only [loopK, laws_szTxnS_b0, laws_szTxnS_w0, hlt, hz, decide_true, cond_true, and_self, if_true, hy, hw, hnn, Sum.elim_inl, Sum.elim_inr, ih2]

theorem laws_szTxnS_lz0 {u0 : (List dTxn)} {u2 : Int} (h0 : u0.length < 9223372036854775807) {K : (((List dTxn) × Int × Int × Int) ⊕ ((List dTxn) × Int × Int × Int)) → Option Res} {s1 : Int} : loopK laws_szTxnS_b0 Fuel (u0, s1, u2, (0 : Int)) K = laws_szTxnS_w0 u0 u2 u0 s1 0 (Sum.elim (fun z => K (.inl (u0, z.1, z.2.1, z.2.2))) (fun z => K (.inr (u0, z.1, u2, z.2)))) :=
  laws_szTxnS_lw0 h0 u0 0 s1 Fuel rfl (lwl_fuel h0)

def laws_szTxnS_t (a0 : (List dTxn)) (a1 : Int) (k : Int → Option Res) : Option Res :=
  bif (decide ((IntKind.wrap .i64 (a1 - (a0.length : Int))) < (0 : Int))) then
    k (-1 : Int)
  else
    laws_szTxnS_w0 a0 (0 : Int) a0 (IntKind.wrap .i64 (a1 - (a0.length : Int))) 0 (Sum.elim (fun z13 =>
      k z13.2.1) (fun z14 =>
      k z14.1))

theorem laws_szTxnS_r {a0 : (List dTxn)} {a1 : Int} (h0 : a0.length < 9223372036854775807) {k : Int → Option Res} : laws_szTxnS_k a0 a1 k = laws_szTxnS_t a0 a1 k := by
  rw [laws_szTxnS_e]
  simp only [laws_szTxnS_d, laws_szTxnS_t, (laws_szTxnS_lz0 h0), Sum.elim_inl, Sum.elim_inr]

def laws_toRangeS_w0 (u0 : (List dRange)) : List dRange → (List dRange) → Nat → ((Int × (List dRange)) → Option Res) → Option Res
  | [], s2, i, k =>
    k ((i : Int), s2)
  | y :: l, s2, i, k =>
    laws_toRange_k y (fun y1 =>
      if 0 ≤ (i : Int) ∧ (i : Int) < (s2.length : Int) then
        laws_toRangeS_w0 u0 l (s2.set (i : Int).toNat y1) (i + 1) k
      else none)

theorem laws_toRangeS_lw0 {u0 : (List dRange)} (h0 : u0.length < 9223372036854775807) {K : ((List dRange) × Int × (List dRange)) → Option Res} : ∀ (l : List dRange) (i : Nat) (s2 : (List dRange)) (n : Nat), u0.drop i = l → l.length < n → loopK laws_toRangeS_b0 n (u0, (i : Int), s2) K = laws_toRangeS_w0 u0 l s2 i (fun z => K (u0, z.1, z.2)) := by
  intro l
  induction l with
  | nil =>
    intro i s2 n hd hn
    have hge := lwl_nil hd
    cases n with
    | zero => exact absurd hn (Nat.not_lt_zero _)
    | succ n => simp only [loopK, laws_toRangeS_b0, laws_toRangeS_w0, hge, decide_false, cond_false, Sum.elim_inr, Sum.elim_inl]
  | cons y l ih =>
    intro i s2 n hd hn
    obtain ⟨hlt, hz, hd2, hw, hnn⟩ := lwl_cons hd h0
    have hy := lwl_get hd
    cases n with
    | zero => exact absurd hn (Nat.not_lt_zero _)
    | succ n =>
      have ih2 := fun (s2 : (List dRange)) => ih (i + 1) s2 n hd2 (Nat.lt_of_succ_lt_succ hn)
      simp only [loopK, laws_toRangeS_b0, laws_toRangeS_w0, hlt, hz, decide_true, cond_true, and_self, if_true, hy, hw, hnn, Sum.elim_inl, Sum.elim_inr, ih2]

theorem laws_toRangeS_lz0 {u0 : (List dRange)} (h0 : u0.length < 9223372036854775807) {K : ((List dRange) × Int × (List dRange)) → Option Res} {s2 : (List dRange)} : loopK laws_toRangeS_b0 Fuel (u0, (0 : Int), s2) K = laws_toRangeS_w0 u0 u0 s2 0 (fun z => K (u0, z.1, z.2)) :=
  laws_toRangeS_lw0 h0 u0 0 s2 Fuel rfl (lwl_fuel h0)

def laws_toRangeS_t (a0 : (List dRange)) (k : (List dRange) → Option Res) : Option Res :=
  if 0 ≤ (a0.length : Int) ∧ (a0.length : Int) ≤ (a0.length : Int) ∧ (a0.length : Int) ≤ (VE.maxLen : Int) then
    laws_toRangeS_w0 a0 a0 (List.replicate (a0.length : Int).toNat (Ty.zero tRange)) 0 (fun z13 =>
      k z13.2)
  else none

theorem laws_toRangeS_r {a0 : (List dRange)} (h0 : a0.length < 9223372036854775807) {k : (List dRange) → Option Res} : laws_toRangeS_k a0 k = laws_toRangeS_t a0 k := by
  rw [laws_toRangeS_e]
  simp only [laws_toRangeS_d, laws_toRangeS_t, (laws_toRangeS_lz0 h0), Sum.elim_inl, Sum.elim_inr]

def laws_toWriteS_w0 (u0 : (List dWrite)) : List dWrite → (List dWrite) → Nat → ((Int × (List dWrite)) → Option Res) → Option Res
  | [], s2, i, k =>
    k ((i : Int), s2)
  | y :: l, s2, i, k =>
    laws_toWrite_k y (fun y1 =>
      if 0 ≤ (i : Int) ∧ (i : Int) < (s2.length : Int) then
        laws_toWriteS_w0 u0 l (s2.set (i : Int).toNat y1) (i + 1) k
      else none)

theorem laws_toWriteS_lw0 {u0 : (List dWrite)} (h0 : u0.length < 9223372036854775807) {K : ((List dWrite) × Int × (List dWrite)) → Option Res} : ∀ (l : List dWrite) (i : Nat) (s2 : (List dWrite)) (n : Nat), u0.drop i = l → l.length < n → loopK laws_toWriteS_b0 n (u0, (i : Int), s2) K = laws_toWriteS_w0 u0 l s2 i (fun z => K (u0, z.1, z.2)) := by
  intro l
  induction l with
  | nil =>
    intro i s2 n hd hn
    have hge := lwl_nil hd
    cases n with
    | zero => exact absurd hn (Nat.not_lt_zero _)
    | succ n => simp only [loopK, laws_toWriteS_b0, laws_toWriteS_w0, hge, decide_false, cond_false, Sum.elim_inr, Sum.elim_inl]
  | cons y l ih =>
    intro i s2 n hd hn
    obtain ⟨hlt, hz, hd2, hw, hnn⟩ := lwl_cons hd h0
    have hy := lwl_get hd
    cases n with
    | zero => exact absurd hn (Nat.not_lt_zero _)
    | succ n =>
      have ih2 := fun (s2 : (List dWrite)) => ih (i + 1) s2 n hd2 (Nat.lt_of_succ_lt_succ hn)
      simp only [loopK, laws_toWriteS_b0, laws_toWriteS_w0, hlt, hz, decide_true, cond_true, and_self, if_true, hy, hw, hnn, Sum.elim_inl, Sum.elim_inr, ih2]

theorem laws_toWriteS_lz0 {u0 : (List dWrite)} (h0 : u0.length < 9223372036854775807) {K : ((List dWrite) × Int × (List dWrite)) → Option Res} {s2 : (List dWrite)} : loopK laws_toWriteS_b0 Fuel (u0, (0 : Int), s2) K = laws_toWriteS_w0 u0 u0 s2 0 (fun z => K (u0, z.1, z.2)) :=
  laws_toWriteS_lw0 h0 u0 0 s2 Fuel rfl (lwl_fuel h0)

def laws_toWriteS_t (a0 : (List dWrite)) (k : (List dWrite) → Option Res) : Option Res :=
  if 0 ≤ (a0.length : Int) ∧ (a0.length : Int) ≤ (a0.length : Int) ∧ (a0.length : Int) ≤ (VE.maxLen : Int) then
    laws_toWriteS_w0 a0 a0 (List.replicate (a0.length : Int).toNat (Ty.zero tWrite)) 0 (fun z13 =>
      k z13.2)
  else none

theorem laws_toWriteS_r {a0 : (List dWrite)} (h0 : a0.length < 9223372036854775807) {k : (List dWrite) → Option Res} : laws_toWriteS_k a0 k = laws_toWriteS_t a0 k := by
  rw [laws_toWriteS_e]
  simp only [laws_toWriteS_d, laws_toWriteS_t, (laws_toWriteS_lz0 h0), Sum.elim_inl, Sum.elim_inr]

def laws_toTxnS_w0 (u0 : (List dTxn)) : List dTxn → (List dTxn) → Nat → ((Int × (List dTxn)) → Option Res) → Option Res
  | [], s2, i, k =>
    k ((i : Int), s2)
  | y :: l, s2, i, k =>
    laws_toTxn_k y (fun y1 =>
      if 0 ≤ (i : Int) ∧ (i : Int) < (s2.length : Int) then
        laws_toTxnS_w0 u0 l (s2.set (i : Int).toNat (y1.1, (y1.2.1, (y1.2.2.1, (y1.2.2.2.1, (y1.2.2.2.2.2.2.1, (y1.2.2.2.2.2.2.2, (y1.2.2.2.2.1, y1.2.2.2.2.2.1)))))))) (i + 1) k
      else none)

theorem laws_toTxnS_lw0 {u0 : (List dTxn)} (h0 : u0.length < 9223372036854775807) {K : ((List dTxn) × Int × (List dTxn)) → Option Res} : ∀ (l : List dTxn) (i : Nat) (s2 : (List dTxn)) (n : Nat), u0.drop i = l → l.length < n → loopK laws_toTxnS_b0 n (u0, (i : Int), s2) K = laws_toTxnS_w0 u0 l s2 i (fun z => K (u0, z.1, z.2)) := by
  intro l
  induction l with
  | nil =>
    intro i s2 n hd hn
    have hge := lwl_nil hd
    cases n with
    | zero => exact absurd hn (Nat.not_lt_zero _)
    | succ n => simp only [loopK, laws_toTxnS_b0, laws_toTxnS_w0, hge, decide_false, cond_false, Sum.elim_inr, Sum.elim_inl]
  | cons y l ih =>
    intro i s2 n hd hn
    obtain ⟨hlt, hz, hd2, hw, hnn⟩ := lwl_cons hd h0
    have hy := lwl_get hd
    cases n with
    | zero => exact absurd hn (Nat.not_lt_zero _)
    | succ n =>
      have ih2 := fun (s2 : (List dTxn)) => ih (i + 1) s2 n hd2 (Nat.lt_of_succ_lt_succ hn)
      simp only [loopK, laws_toTxnS_b0, laws_toTxnS_w0, hlt, hz, decide_true, cond_true, and_self, if_true, hy, hw, hnn, Sum.elim_inl, Sum.elim_inr, ih2]

theorem laws_toTxnS_lz0 {u0 : (List dTxn)} (h0 : u0.length < 9223372036854775807) {K : ((List dTxn) × Int × (List dTxn)) → Option Res} {s2 : (List dTxn)} : loopK laws_toTxnS_b0 Fuel (u0, (0 : Int), s2) K = laws_toTxnS_w0 u0 u0 s2 0 (fun z => K (u0, z.1, z.2)) :=
  laws_toTxnS_lw0 h0 u0 0 s2 Fuel rfl (lwl_fuel h0)

def laws_toTxnS_t (a0 : (List dTxn)) (k : (List dTxn) → Option Res) : Option Res :=
  if 0 ≤ (a0.length : Int) ∧ (a0.length : Int) ≤ (a0.length : Int) ∧ (a0.length : Int) ≤ (VE.maxLen : Int) then
    laws_toTxnS_w0 a0 a0 (List.replicate (a0.length : Int).toNat (Ty.zero tTxn)) 0 (fun z13 =>
      k z13.2)
  else none

theorem laws_toTxnS_r {a0 : (List dTxn)} (h0 : a0.length < 9223372036854775807) {k : (List dTxn) → Option Res} : laws_toTxnS_k a0 k = laws_toTxnS_t a0 k := by
  rw [laws_toTxnS_e]
  simp only [laws_toTxnS_d, laws_toTxnS_t, (laws_toTxnS_lz0 h0), Sum.elim_inl, Sum.elim_inr]

def spec_Touches_w2 (u0 : (List dRange)) (u1 : (List dWrite)) (u2 : Bool) (u3 : Int) : List dWrite → Nat → (((Bool × Int) ⊕ Int) → Option Res) → Option Res
  | [], i, k =>
    k (.inr (i : Int))
  | y :: l, i, k =>
    if 0 ≤ u3 ∧ u3 < (u0.length : Int) then
      spec_InRange_k (rd (Ty.zero tRange) u0 u3) y.1 (fun y1 =>
        bif y1 then
          k (.inl (true, (i : Int)))
        else
          spec_Touches_w2 u0 u1 u2 u3 l (i + 1) k)
    else none

theorem spec_Touches_lw2 {u0 : (List dRange)} {u1 : (List dWrite)} {u2 : Bool} {u3 : Int} (h0 : u1.length < 9223372036854775807) {K : (((List dRange) × (List dWrite) × Bool × Int × Int) ⊕ ((List dRange) × (List dWrite) × Bool × Int × Int)) → Option Res} : ∀ (l : List dWrite) (i : Nat)  (n : Nat), u1.drop i = l → l.length < n → loopK spec_Touches_b2 n (u0, u1, u2, u3, (i : Int)) K = spec_Touches_w2 u0 u1 u2 u3 l  i (Sum.elim (fun z => K (.inl (u0, u1, z.1, u3, z.2))) (fun z => K (.inr (u0, u1, u2, u3, z)))) := by
  intro l
  induction l with
  | nil =>
    intro i  n hd hn
    have hge := lwl_nil hd
    cases n with
    | zero => exact absurd hn (Nat.not_lt_zero _)
    | succ n => simp only [loopK, spec_Touches_b2, spec_Touches_w2, hge, decide_false, cond_false, Sum.elim_inr, Sum.elim_inl]
  | cons y l ih =>
    intro i  n hd hn
    obtain ⟨hlt, hz, hd2, hw, hnn⟩ := lwl_cons hd h0
    have hy := lwl_get hd
    cases n with
    | zero => exact absurd hn (Nat.not_lt_zero _)
    | succ n =>
      have ih2 := ih (i + 1)  n hd2 (Nat.lt_of_succ_lt_succ hn)
      simp only [loopK, spec_Touches_b2, spec_Touches_w2, hlt, hz, decide_true, cond_true, and_self, if_true, hy, hw, hnn, Sum.elim_inl, Sum.elim_inr, ih2]

theorem spec_Touches_lz2 {u0 : (List dRange)} {u1 : (List dWrite)} {u2 : Bool} {u3 : Int} (h0 : u1.length < 9223372036854775807) {K : (((List dRange) × (List dWrite) × Bool × Int × Int) ⊕ ((List dRange) × (List dWrite) × Bool × Int × Int)) → Option Res}  : loopK spec_Touches_b2 Fuel (u0, u1, u2, u3, (0 : Int)) K = spec_Touches_w2 u0 u1 u2 u3 u1  0 (Sum.elim (fun z => K (.inl (u0, u1, z.1, u3, z.2))) (fun z => K (.inr (u0, u1, u2, u3, z)))) :=
  spec_Touches_lw2 h0 u1 0  Fuel rfl (lwl_fuel h0)

def spec_Touches_w0 (u0 : (List dRange)) (u1 : (List dWrite)) (u2 : Bool) : List dRange → Nat → ((Int ⊕ (Bool × Int)) → Option Res) → Option Res
  | [], i, k =>
    k (.inl (i : Int))
  | y :: l, i, k =>
    spec_Touches_w2 u0 u1 u2 (i : Int) u1  0 (Sum.elim (fun z1 =>
      k (.inr (z1.1, (i : Int)))) (fun _ =>
      spec_Touches_w0 u0 u1 u2 l (i + 1) k))

theorem spec_Touches_lw0 {u0 : (List dRange)} {u1 : (List dWrite)} {u2 : Bool} (h0 : u0.length < 9223372036854775807) (h1 : u1.length < 9223372036854775807) {K : (((List dRange) × (List dWrite) × Bool × Int) ⊕ ((List dRange) × (List dWrite) × Bool × Int)) → Option Res} : ∀ (l : List dRange) (i : Nat)  (n : Nat), u0.drop i = l → l.length < n → loopK spec_Touches_b0 n (u0, u1, u2, (i : Int)) K = spec_Touches_w0 u0 u1 u2 l  i (Sum.elim (fun z => K (.inl (u0, u1, u2, z))) (fun z => K (.inr (u0, u1, z.1, z.2)))) := by
  intro l
  induction l with
  | nil =>
    intro i  n hd hn
    have hge := lwl_nil hd
    cases n with
    | zero => exact absurd hn (Nat.not_lt_zero _)
    | succ n => simp only [loopK, spec_Touches_b0, spec_Touches_w0, hge, decide_false, cond_false, Sum.elim_inr, Sum.elim_inl, (spec_Touches_lz2 h1)]
  | cons y l ih =>
    intro i  n hd hn
    obtain ⟨hlt, hz, hd2, hw, hnn⟩ := lwl_cons hd h0
    have hy := lwl_get hd
    cases n with
    | zero => exact absurd hn (Nat.not_lt_zero _)
    | succ n =>
      have ih2 := ih (i + 1)  n hd2 (Nat.lt_of_succ_lt_succ hn)
      simp only [loopK, spec_Touches_b0, spec_Touches_w0, hlt, hz, decide_true, cond_true, and_self, if_true, hy, hw, hnn, Sum.elim_inl, Sum.elim_inr, ih2, (spec_Touches_lz2 h1)]

theorem spec_Touches_lz0 {u0 : (List dRange)} {u1 : (List dWrite)} {u2 : Bool} (h0 : u0.length < 9223372036854775807) (h1 : u1.length < 9223372036854775807) {K : (((List dRange) × (List dWrite) × Bool × Int) ⊕ ((List dRange) × (List dWrite) × Bool × Int)) → Option Res}  : loopK spec_Touches_b0 Fuel (u0, u1, u2, (0 : Int)) K = spec_Touches_w0 u0 u1 u2 u0  0 (Sum.elim (fun z => K (.inl (u0, u1, u2, z))) (fun z => K (.inr (u0, u1, z.1, z.2)))) :=
  spec_Touches_lw0 h0 h1 u0 0  Fuel rfl (lwl_fuel h0)

def spec_Touches_t (a0 : (List dRange)) (a1 : (List dWrite)) (k : Bool → Option Res) : Option Res :=
  spec_Touches_w0 a0 a1 false a0  0 (Sum.elim (fun _ =>
    k false) (fun z14 =>
    k z14.1))

theorem spec_Touches_r {a0 : (List dRange)} {a1 : (List dWrite)} (h0 : a0.length < 9223372036854775807) (h1 : a1.length < 9223372036854775807) {k : Bool → Option Res} : spec_Touches_k a0 a1 k = spec_Touches_t a0 a1 k := by
  rw [spec_Touches_e]
  simp only [spec_Touches_d, spec_Touches_t, (spec_Touches_lz0 h0 h1), Sum.elim_inl, Sum.elim_inr]

def spec_InOf_w0 (u0 : (List dTxn)) (u1 : Bool) (u3 : Int) (u4 : Int) (u5 : Int) (u6 : Int) (u7 : (List dRange)) (u8 : (List dWrite)) (u9 : Bool) (u10 : ByteArray) : List dTxn → Nat → (((Bool × Int) ⊕ Int) → Option Res) → Option Res
  | [], i, k =>
    k (.inr (i : Int))
  | y :: l, i, k =>
    bif (y.2.1 == (2 : Int)) then
      spec_Ahead_k y (u3, (u4, (u5, (u6, (u7, (u8, (u9, u10))))))) (fun y1 =>
        bif y1 then
          k (.inl (true, (i : Int)))
        else
          spec_InOf_w0 u0 u1 u3 u4 u5 u6 u7 u8 u9 u10 l (i + 1) k)
    else
      bif (y.2.1 == (3 : Int)) then
        spec_Ahead_k y (u3, (u4, (u5, (u6, (u7, (u8, (u9, u10))))))) (fun y2 =>
          bif y2 then
            k (.inl (true, (i : Int)))
          else
            spec_InOf_w0 u0 u1 u3 u4 u5 u6 u7 u8 u9 u10 l (i + 1) k)
      else
        spec_InOf_w0 u0 u1 u3 u4 u5 u6 u7 u8 u9 u10 l (i + 1) k

theorem spec_InOf_lw0 {u0 : (List dTxn)} {u1 : Bool} {u3 : Int} {u4 : Int} {u5 : Int} {u6 : Int} {u7 : (List dRange)} {u8 : (List dWrite)} {u9 : Bool} {u10 : ByteArray} (h0 : u0.length < 9223372036854775807) {K : (((List dTxn) × Bool × Int × Int × Int × Int × Int × (List dRange) × (List dWrite) × Bool × ByteArray) ⊕ ((List dTxn) × Bool × Int × Int × Int × Int × Int × (List dRange) × (List dWrite) × Bool × ByteArray)) → Option Res} : ∀ (l : List dTxn) (i : Nat)  (n : Nat), u0.drop i = l → l.length < n → loopK spec_InOf_b0 n (u0, u1, (i : Int), u3, u4, u5, u6, u7, u8, u9, u10) K = spec_InOf_w0 u0 u1 u3 u4 u5 u6 u7 u8 u9 u10 l  i (Sum.elim (fun z => K (.inl (u0, z.1, z.2, u3, u4, u5, u6, u7, u8, u9, u10))) (fun z => K (.inr (u0, u1, z, u3, u4, u5, u6, u7, u8, u9, u10)))) := by
  intro l
  induction l with
  | nil =>
    intro i  n hd hn
    have hge := lwl_nil hd
    cases n with
    | zero => exact absurd hn (Nat.not_lt_zero _)
    | succ n => simp only [loopK, spec_InOf_b0, spec_InOf_w0, hge, decide_false, cond_false, Sum.elim_inr, Sum.elim_inl]
  | cons y l ih =>
    intro i  n hd hn
    obtain ⟨hlt, hz, hd2, hw, hnn⟩ := lwl_cons hd h0
    have hy := lwl_get hd
    cases n with
    | zero => exact absurd hn (Nat.not_lt_zero _)
    | succ n =>
      have ih2 := ih (i + 1)  n hd2 (Nat.lt_of_succ_lt_succ hn)
      simp only [loopK, spec_InOf_b0, spec_InOf_w0, hlt, hz, decide_true, cond_true, and_self, if_true, hy, hw, hnn, Sum.elim_inl, Sum.elim_inr, ih2]

theorem spec_InOf_lz0 {u0 : (List dTxn)} {u1 : Bool} {u3 : Int} {u4 : Int} {u5 : Int} {u6 : Int} {u7 : (List dRange)} {u8 : (List dWrite)} {u9 : Bool} {u10 : ByteArray} (h0 : u0.length < 9223372036854775807) {K : (((List dTxn) × Bool × Int × Int × Int × Int × Int × (List dRange) × (List dWrite) × Bool × ByteArray) ⊕ ((List dTxn) × Bool × Int × Int × Int × Int × Int × (List dRange) × (List dWrite) × Bool × ByteArray)) → Option Res}  : loopK spec_InOf_b0 Fuel (u0, u1, (0 : Int), u3, u4, u5, u6, u7, u8, u9, u10) K = spec_InOf_w0 u0 u1 u3 u4 u5 u6 u7 u8 u9 u10 u0  0 (Sum.elim (fun z => K (.inl (u0, z.1, z.2, u3, u4, u5, u6, u7, u8, u9, u10))) (fun z => K (.inr (u0, u1, z, u3, u4, u5, u6, u7, u8, u9, u10)))) :=
  spec_InOf_lw0 h0 u0 0  Fuel rfl (lwl_fuel h0)

def spec_InOf_t (a0 : dTxn) (a1 : (List dTxn)) (k : Bool → Option Res) : Option Res :=
  spec_InOf_w0 a1 false a0.1 a0.2.1 a0.2.2.1 a0.2.2.2.1 a0.2.2.2.2.1 a0.2.2.2.2.2.1 a0.2.2.2.2.2.2.1 a0.2.2.2.2.2.2.2 a1  0 (Sum.elim (fun z13 =>
    k z13.1) (fun _ =>
    k false))

theorem spec_InOf_r {a0 : dTxn} {a1 : (List dTxn)} (h0 : a1.length < 9223372036854775807) {k : Bool → Option Res} : spec_InOf_k a0 a1 k = spec_InOf_t a0 a1 k := by
  rw [spec_InOf_e]
  simp only [spec_InOf_d, spec_InOf_t, (spec_InOf_lz0 h0), Sum.elim_inl, Sum.elim_inr]

def impl_Touches_w2 (u0 : (List dWrite)) (u1 : Bool) (u2 : (List dRange)) (u3 : Int) (u4 : Int) (u5 : (List dWrite)) (u8 : ByteArray) (u9 : ByteArray) : List dWrite → Nat → (((Bool × Int) ⊕ Int) → Option Res) → Option Res
  | [], i, k =>
    k (.inr (i : Int))
  | y :: l, i, k =>
    impl_InRange_k (u8, u9) y.1 (fun y1 =>
      bif y1 then
        k (.inl (true, (i : Int)))
      else
        impl_Touches_w2 u0 u1 u2 u3 u4 u5 u8 u9 l (i + 1) k)

theorem impl_Touches_lw2 {u0 : (List dWrite)} {u1 : Bool} {u2 : (List dRange)} {u3 : Int} {u4 : Int} {u5 : (List dWrite)} {u8 : ByteArray} {u9 : ByteArray} (h0 : u5.length < 9223372036854775807) {K : (((List dWrite) × Bool × (List dRange) × Int × Int × (List dWrite) × Int × Int × ByteArray × ByteArray) ⊕ ((List dWrite) × Bool × (List dRange) × Int × Int × (List dWrite) × Int × Int × ByteArray × ByteArray)) → Option Res} : ∀ (l : List dWrite) (i : Nat)  (n : Nat), u5.drop i = l → l.length < n → loopK impl_Touches_b2 n (u0, u1, u2, u3, u4, u5, (u5.length : Int), (i : Int), u8, u9) K = impl_Touches_w2 u0 u1 u2 u3 u4 u5 u8 u9 l  i (Sum.elim (fun z => K (.inl (u0, z.1, u2, u3, u4, u5, (u5.length : Int), z.2, u8, u9))) (fun z => K (.inr (u0, u1, u2, u3, u4, u5, (u5.length : Int), z, u8, u9)))) := by
  intro l
  induction l with
  | nil =>
    intro i  n hd hn
    have hge := lwl_nil hd
    cases n with
    | zero => exact absurd hn (Nat.not_lt_zero _)
    | succ n => simp only [loopK, impl_Touches_b2, impl_Touches_w2, hge, decide_false, cond_false, Sum.elim_inr, Sum.elim_inl]
  | cons y l ih =>
    intro i  n hd hn
    obtain ⟨hlt, hz, hd2, hw, hnn⟩ := lwl_cons hd h0
    have hy := lwl_get hd
    cases n with
    | zero => exact absurd hn (Nat.not_lt_zero _)
    | succ n =>
      have ih2 := ih (i + 1)  n hd2 (Nat.lt_of_succ_lt_succ hn)
      simp only [loopK, impl_Touches_b2, impl_Touches_w2, hlt, hz, decide_true, cond_true, and_self, if_true, hy, hw, hnn, Sum.elim_inl, Sum.elim_inr, ih2]

theorem impl_Touches_lz2 {u0 : (List dWrite)} {u1 : Bool} {u2 : (List dRange)} {u3 : Int} {u4 : Int} {u5 : (List dWrite)} {u8 : ByteArray} {u9 : ByteArray} (h0 : u5.length < 9223372036854775807) {K : (((List dWrite) × Bool × (List dRange) × Int × Int × (List dWrite) × Int × Int × ByteArray × ByteArray) ⊕ ((List dWrite) × Bool × (List dRange) × Int × Int × (List dWrite) × Int × Int × ByteArray × ByteArray)) → Option Res}  : loopK impl_Touches_b2 Fuel (u0, u1, u2, u3, u4, u5, (u5.length : Int), (0 : Int), u8, u9) K = impl_Touches_w2 u0 u1 u2 u3 u4 u5 u8 u9 u5  0 (Sum.elim (fun z => K (.inl (u0, z.1, u2, u3, u4, u5, (u5.length : Int), z.2, u8, u9))) (fun z => K (.inr (u0, u1, u2, u3, u4, u5, (u5.length : Int), z, u8, u9)))) :=
  impl_Touches_lw2 h0 u5 0  Fuel rfl (lwl_fuel h0)

def impl_Touches_w0 (u0 : (List dWrite)) (u1 : Bool) (u2 : (List dRange)) : List dRange → Nat → ((Int ⊕ (Bool × Int)) → Option Res) → Option Res
  | [], i, k =>
    k (.inl (i : Int))
  | y :: l, i, k =>
    impl_Touches_w2 u0 u1 u2 (u2.length : Int) (i : Int) u0 y.1 y.2 u0  0 (Sum.elim (fun z1 =>
      k (.inr (z1.1, (i : Int)))) (fun _ =>
      impl_Touches_w0 u0 u1 u2 l (i + 1) k))

theorem impl_Touches_lw0 {u0 : (List dWrite)} {u1 : Bool} {u2 : (List dRange)} (h0 : u2.length < 9223372036854775807) (h1 : u0.length < 9223372036854775807) {K : (((List dWrite) × Bool × (List dRange) × Int × Int) ⊕ ((List dWrite) × Bool × (List dRange) × Int × Int)) → Option Res} : ∀ (l : List dRange) (i : Nat)  (n : Nat), u2.drop i = l → l.length < n → loopK impl_Touches_b0 n (u0, u1, u2, (u2.length : Int), (i : Int)) K = impl_Touches_w0 u0 u1 u2 l  i (Sum.elim (fun z => K (.inl (u0, u1, u2, (u2.length : Int), z))) (fun z => K (.inr (u0, z.1, u2, (u2.length : Int), z.2)))) := by
  intro l
  induction l with
  | nil =>
    intro i  n hd hn
    have hge := lwl_nil hd
    cases n with
    | zero => exact absurd hn (Nat.not_lt_zero _)
    | succ n => simp only [loopK, impl_Touches_b0, impl_Touches_w0, hge, decide_false, cond_false, Sum.elim_inr, Sum.elim_inl, (impl_Touches_lz2 h1)]
  | cons y l ih =>
    intro i  n hd hn
    obtain ⟨hlt, hz, hd2, hw, hnn⟩ := lwl_cons hd h0
    have hy := lwl_get hd
    cases n with
    | zero => exact absurd hn (Nat.not_lt_zero _)
    | succ n =>
      have ih2 := ih (i + 1)  n hd2 (Nat.lt_of_succ_lt_succ hn)
      simp only [loopK, impl_Touches_b0, impl_Touches_w0, hlt, hz, decide_true, cond_true, and_self, if_true, hy, hw, hnn, Sum.elim_inl, Sum.elim_inr, ih2, (impl_Touches_lz2 h1)]

theorem impl_Touches_lz0 {u0 : (List dWrite)} {u1 : Bool} {u2 : (List dRange)} (h0 : u2.length < 9223372036854775807) (h1 : u0.length < 9223372036854775807) {K : (((List dWrite) × Bool × (List dRange) × Int × Int) ⊕ ((List dWrite) × Bool × (List dRange) × Int × Int)) → Option Res}  : loopK impl_Touches_b0 Fuel (u0, u1, u2, (u2.length : Int), (0 : Int)) K = impl_Touches_w0 u0 u1 u2 u2  0 (Sum.elim (fun z => K (.inl (u0, u1, u2, (u2.length : Int), z))) (fun z => K (.inr (u0, z.1, u2, (u2.length : Int), z.2)))) :=
  impl_Touches_lw0 h0 h1 u2 0  Fuel rfl (lwl_fuel h0)

def impl_Touches_t (a0 : (List dRange)) (a1 : (List dWrite)) (k : Bool → Option Res) : Option Res :=
  impl_Touches_w0 a1 false a0 a0  0 (Sum.elim (fun _ =>
    k false) (fun z14 =>
    k z14.1))

theorem impl_Touches_r {a0 : (List dRange)} {a1 : (List dWrite)} (h0 : a0.length < 9223372036854775807) (h1 : a1.length < 9223372036854775807) {k : Bool → Option Res} : impl_Touches_k a0 a1 k = impl_Touches_t a0 a1 k := by
  rw [impl_Touches_e]
  simp only [impl_Touches_d, impl_Touches_t, (impl_Touches_lz0 h0 h1), Sum.elim_inl, Sum.elim_inr]

def slices_IndexFunc_Txn_InOf_1_w0 (u0 : (List dTxn)) (u1 : Int) : List dTxn → Int → Int → Int → Int → (List dRange) → (List dWrite) → Bool → ByteArray → Nat → (((Int × Int × Int × Int × Int × Int × (List dRange) × (List dWrite) × Bool × ByteArray) ⊕ (Int × Int × Int × Int × Int × (List dRange) × (List dWrite) × Bool × ByteArray)) → Option Res) → Option Res
  | [], s4, s5, s6, s7, s8, s9, s10, s11, i, k =>
    k (.inr ((i : Int), s4, s5, s6, s7, s8, s9, s10, s11))
  | y :: l, s4, s5, s6, s7, s8, s9, s10, s11, i, k =>
    impl_InOf_1_k y s4 s5 s6 s7 s8 s9 s10 s11 (fun y1 =>
      bif y1.1 then
        k (.inl ((i : Int), (i : Int), y1.2.1, y1.2.2.1, y1.2.2.2.1, y1.2.2.2.2.1, y1.2.2.2.2.2.1, y1.2.2.2.2.2.2.1, y1.2.2.2.2.2.2.2.1, y1.2.2.2.2.2.2.2.2))
      else
        slices_IndexFunc_Txn_InOf_1_w0 u0 u1 l y1.2.1 y1.2.2.1 y1.2.2.2.1 y1.2.2.2.2.1 y1.2.2.2.2.2.1 y1.2.2.2.2.2.2.1 y1.2.2.2.2.2.2.2.1 y1.2.2.2.2.2.2.2.2 (i + 1) k)

theorem slices_IndexFunc_Txn_InOf_1_lw0 {u0 : (List dTxn)} {u1 : Int} (h0 : u0.length < 9223372036854775807) {K : (((List dTxn) × Int × Int × Int × Int × Int × Int × Int × (List dRange) × (List dWrite) × Bool × ByteArray) ⊕ ((List dTxn) × Int × Int × Int × Int × Int × Int × Int × (List dRange) × (List dWrite) × Bool × ByteArray)) → Option Res} : ∀ (l : List dTxn) (i : Nat) (s4 : Int) (s5 : Int) (s6 : Int) (s7 : Int) (s8 : (List dRange)) (s9 : (List dWrite)) (s10 : Bool) (s11 : ByteArray) (n : Nat), u0.drop i = l → l.length < n → loopK slices_IndexFunc_Txn_InOf_1_b0 n (u0, u1, (u0.length : Int), (i : Int), s4, s5, s6, s7, s8, s9, s10, s11) K = slices_IndexFunc_Txn_InOf_1_w0 u0 u1 l s4 s5 s6 s7 s8 s9 s10 s11 i (Sum.elim (fun z => K (.inl (u0, z.1, (u0.length : Int), z.2.1, z.2.2.1, z.2.2.2.1, z.2.2.2.2.1, z.2.2.2.2.2.1, z.2.2.2.2.2.2.1, z.2.2.2.2.2.2.2.1, z.2.2.2.2.2.2.2.2.1, z.2.2.2.2.2.2.2.2.2))) (fun z => K (.inr (u0, u1, (u0.length : Int), z.1, z.2.1, z.2.2.1, z.2.2.2.1, z.2.2.2.2.1, z.2.2.2.2.2.1, z.2.2.2.2.2.2.1, z.2.2.2.2.2.2.2.1, z.2.2.2.2.2.2.2.2)))) := by
  intro l
  induction l with
  | nil =>
    intro i s4 s5 s6 s7 s8 s9 s10 s11 n hd hn
    have hge := lwl_nil hd
    cases n with
    | zero => exact absurd hn (Nat.not_lt_zero _)
    | succ n => simp only [loopK, slices_IndexFunc_Txn_InOf_1_b0, slices_IndexFunc_Txn_InOf_1_w0, hge, decide_false, cond_false, Sum.elim_inr, Sum.elim_inl]
  | cons y l ih =>
    intro i s4 s5 s6 s7 s8 s9 s10 s11 n hd hn
    obtain ⟨hlt, hz, hd2, hw, hnn⟩ := lwl_cons hd h0
    have hy := lwl_get hd
    cases n with
    | zero => exact absurd hn (Nat.not_lt_zero _)
    | succ n =>
      have ih2 := fun (s4 : Int) (s5 : Int) (s6 : Int) (s7 : Int) (s8 : (List dRange)) (s9 : (List dWrite)) (s10 : Bool) (s11 : ByteArray) => ih (i + 1) s4 s5 s6 s7 s8 s9 s10 s11 n hd2 (Nat.lt_of_succ_lt_succ hn)
      simp only [loopK, slices_IndexFunc_Txn_InOf_1_b0, slices_IndexFunc_Txn_InOf_1_w0, hlt, hz, decide_true, cond_true, and_self, if_true, hy, hw, hnn, Sum.elim_inl, Sum.elim_inr, ih2]

theorem slices_IndexFunc_Txn_InOf_1_lz0 {u0 : (List dTxn)} {u1 : Int} (h0 : u0.length < 9223372036854775807) {K : (((List dTxn) × Int × Int × Int × Int × Int × Int × Int × (List dRange) × (List dWrite) × Bool × ByteArray) ⊕ ((List dTxn) × Int × Int × Int × Int × Int × Int × Int × (List dRange) × (List dWrite) × Bool × ByteArray)) → Option Res} {s4 : Int} {s5 : Int} {s6 : Int} {s7 : Int} {s8 : (List dRange)} {s9 : (List dWrite)} {s10 : Bool} {s11 : ByteArray} : loopK slices_IndexFunc_Txn_InOf_1_b0 Fuel (u0, u1, (u0.length : Int), (0 : Int), s4, s5, s6, s7, s8, s9, s10, s11) K = slices_IndexFunc_Txn_InOf_1_w0 u0 u1 u0 s4 s5 s6 s7 s8 s9 s10 s11 0 (Sum.elim (fun z => K (.inl (u0, z.1, (u0.length : Int), z.2.1, z.2.2.1, z.2.2.2.1, z.2.2.2.2.1, z.2.2.2.2.2.1, z.2.2.2.2.2.2.1, z.2.2.2.2.2.2.2.1, z.2.2.2.2.2.2.2.2.1, z.2.2.2.2.2.2.2.2.2))) (fun z => K (.inr (u0, u1, (u0.length : Int), z.1, z.2.1, z.2.2.1, z.2.2.2.1, z.2.2.2.2.1, z.2.2.2.2.2.1, z.2.2.2.2.2.2.1, z.2.2.2.2.2.2.2.1, z.2.2.2.2.2.2.2.2)))) :=
  slices_IndexFunc_Txn_InOf_1_lw0 h0 u0 0 s4 s5 s6 s7 s8 s9 s10 s11 Fuel rfl (lwl_fuel h0)

def slices_IndexFunc_Txn_InOf_1_t (a0 : (List dTxn)) (a1 : Int) (a2 : Int) (a3 : Int) (a4 : Int) (a5 : (List dRange)) (a6 : (List dWrite)) (a7 : Bool) (a8 : ByteArray) (k : (Int × Int × Int × Int × Int × (List dRange) × (List dWrite) × Bool × ByteArray) → Option Res) : Option Res :=
  slices_IndexFunc_Txn_InOf_1_w0 a0 (0 : Int) a0 a1 a2 a3 a4 a5 a6 a7 a8 0 (Sum.elim (fun z13 =>
    k (z13.1, z13.2.2.1, z13.2.2.2.1, z13.2.2.2.2.1, z13.2.2.2.2.2.1, z13.2.2.2.2.2.2.1, z13.2.2.2.2.2.2.2.1, z13.2.2.2.2.2.2.2.2.1, z13.2.2.2.2.2.2.2.2.2)) (fun z14 =>
    k ((-1 : Int), z14.2.1, z14.2.2.1, z14.2.2.2.1, z14.2.2.2.2.1, z14.2.2.2.2.2.1, z14.2.2.2.2.2.2.1, z14.2.2.2.2.2.2.2.1, z14.2.2.2.2.2.2.2.2)))

theorem slices_IndexFunc_Txn_InOf_1_r {a0 : (List dTxn)} {a1 : Int} {a2 : Int} {a3 : Int} {a4 : Int} {a5 : (List dRange)} {a6 : (List dWrite)} {a7 : Bool} {a8 : ByteArray} (h0 : a0.length < 9223372036854775807) {k : (Int × Int × Int × Int × Int × (List dRange) × (List dWrite) × Bool × ByteArray) → Option Res} : slices_IndexFunc_Txn_InOf_1_k a0 a1 a2 a3 a4 a5 a6 a7 a8 k = slices_IndexFunc_Txn_InOf_1_t a0 a1 a2 a3 a4 a5 a6 a7 a8 k := by
  rw [slices_IndexFunc_Txn_InOf_1_e]
  simp only [slices_IndexFunc_Txn_InOf_1_d, slices_IndexFunc_Txn_InOf_1_t, (slices_IndexFunc_Txn_InOf_1_lz0 h0), Sum.elim_inl, Sum.elim_inr]

def laws_eqRangeS_w0 (u0 : (List dRange)) (u1 : (List dRange)) (u2 : Bool) : List dRange → Nat → (((Bool × Int) ⊕ Int) → Option Res) → Option Res
  | [], i, k =>
    k (.inr (i : Int))
  | y :: l, i, k =>
    if 0 ≤ (i : Int) ∧ (i : Int) < (u1.length : Int) then
      laws_eqRange_k y (rd (Ty.zero tRange) u1 (i : Int)) (fun y1 =>
        bif (!y1) then
          k (.inl (false, (i : Int)))
        else
          laws_eqRangeS_w0 u0 u1 u2 l (i + 1) k)
    else none

theorem laws_eqRangeS_lw0 {u0 : (List dRange)} {u1 : (List dRange)} {u2 : Bool} (h0 : u0.length < 9223372036854775807) {K : (((List dRange) × (List dRange) × Bool × Int) ⊕ ((List dRange) × (List dRange) × Bool × Int)) → Option Res} : ∀ (l : List dRange) (i : Nat)  (n : Nat), u0.drop i = l → l.length < n → loopK laws_eqRangeS_b0 n (u0, u1, u2, (i : Int)) K = laws_eqRangeS_w0 u0 u1 u2 l  i (Sum.elim (fun z => K (.inl (u0, u1, z.1, z.2))) (fun z => K (.inr (u0, u1, u2, z)))) := by
  intro l
  induction l with
  | nil =>
    intro i  n hd hn
    have hge := lwl_nil hd
    cases n with
    | zero => exact absurd hn (Nat.not_lt_zero _)
    | succ n => simp only [loopK, laws_eqRangeS_b0, laws_eqRangeS_w0, hge, decide_false, cond_false, Sum.elim_inr, Sum.elim_inl]
  | cons y l ih =>
    intro i  n hd hn
    obtain ⟨hlt, hz, hd2, hw, hnn⟩ := lwl_cons hd h0
    have hy := lwl_get hd
    cases n with
    | zero => exact absurd hn (Nat.not_lt_zero _)
    | succ n =>
      have ih2 := ih (i + 1)  n hd2 (Nat.lt_of_succ_lt_succ hn)
      simp only [loopK, laws_eqRangeS_b0, laws_eqRangeS_w0, hlt, hz, decide_true, cond_true, and_self, if_true, hy, hw, hnn, Sum.elim_inl, Sum.elim_inr, ih2]

theorem laws_eqRangeS_lz0 {u0 : (List dRange)} {u1 : (List dRange)} {u2 : Bool} (h0 : u0.length < 9223372036854775807) {K : (((List dRange) × (List dRange) × Bool × Int) ⊕ ((List dRange) × (List dRange) × Bool × Int)) → Option Res}  : loopK laws_eqRangeS_b0 Fuel (u0, u1, u2, (0 : Int)) K = laws_eqRangeS_w0 u0 u1 u2 u0  0 (Sum.elim (fun z => K (.inl (u0, u1, z.1, z.2))) (fun z => K (.inr (u0, u1, u2, z)))) :=
  laws_eqRangeS_lw0 h0 u0 0  Fuel rfl (lwl_fuel h0)

def laws_eqRangeS_t (a0 : (List dRange)) (a1 : (List dRange)) (k : Bool → Option Res) : Option Res :=
  bif ((a0.length : Int) != (a1.length : Int)) then
    k false
  else
    laws_eqRangeS_w0 a0 a1 false a0  0 (Sum.elim (fun z13 =>
      k z13.1) (fun _ =>
      k true))

theorem laws_eqRangeS_r {a0 : (List dRange)} {a1 : (List dRange)} (h0 : a0.length < 9223372036854775807) {k : Bool → Option Res} : laws_eqRangeS_k a0 a1 k = laws_eqRangeS_t a0 a1 k := by
  rw [laws_eqRangeS_e]
  simp only [laws_eqRangeS_d, laws_eqRangeS_t, (laws_eqRangeS_lz0 h0), Sum.elim_inl, Sum.elim_inr]

def laws_eqWriteS_w0 (u0 : (List dWrite)) (u1 : (List dWrite)) (u2 : Bool) : List dWrite → Nat → (((Bool × Int) ⊕ Int) → Option Res) → Option Res
  | [], i, k =>
    k (.inr (i : Int))
  | y :: l, i, k =>
    if 0 ≤ (i : Int) ∧ (i : Int) < (u1.length : Int) then
      laws_eqWrite_k y (rd (Ty.zero tWrite) u1 (i : Int)) (fun y1 =>
        bif (!y1) then
          k (.inl (false, (i : Int)))
        else
          laws_eqWriteS_w0 u0 u1 u2 l (i + 1) k)
    else none

theorem laws_eqWriteS_lw0 {u0 : (List dWrite)} {u1 : (List dWrite)} {u2 : Bool} (h0 : u0.length < 9223372036854775807) {K : (((List dWrite) × (List dWrite) × Bool × Int) ⊕ ((List dWrite) × (List dWrite) × Bool × Int)) → Option Res} : ∀ (l : List dWrite) (i : Nat)  (n : Nat), u0.drop i = l → l.length < n → loopK laws_eqWriteS_b0 n (u0, u1, u2, (i : Int)) K = laws_eqWriteS_w0 u0 u1 u2 l  i (Sum.elim (fun z => K (.inl (u0, u1, z.1, z.2))) (fun z => K (.inr (u0, u1, u2, z)))) := by
  intro l
  induction l with
  | nil =>
    intro i  n hd hn
    have hge := lwl_nil hd
    cases n with
    | zero => exact absurd hn (Nat.not_lt_zero _)
    | succ n => simp only [loopK, laws_eqWriteS_b0, laws_eqWriteS_w0, hge, decide_false, cond_false, Sum.elim_inr, Sum.elim_inl]
  | cons y l ih =>
    intro i  n hd hn
    obtain ⟨hlt, hz, hd2, hw, hnn⟩ := lwl_cons hd h0
    have hy := lwl_get hd
    cases n with
    | zero => exact absurd hn (Nat.not_lt_zero _)
    | succ n =>
      have ih2 := ih (i + 1)  n hd2 (Nat.lt_of_succ_lt_succ hn)
      simp only [loopK, laws_eqWriteS_b0, laws_eqWriteS_w0, hlt, hz, decide_true, cond_true, and_self, if_true, hy, hw, hnn, Sum.elim_inl, Sum.elim_inr, ih2]

theorem laws_eqWriteS_lz0 {u0 : (List dWrite)} {u1 : (List dWrite)} {u2 : Bool} (h0 : u0.length < 9223372036854775807) {K : (((List dWrite) × (List dWrite) × Bool × Int) ⊕ ((List dWrite) × (List dWrite) × Bool × Int)) → Option Res}  : loopK laws_eqWriteS_b0 Fuel (u0, u1, u2, (0 : Int)) K = laws_eqWriteS_w0 u0 u1 u2 u0  0 (Sum.elim (fun z => K (.inl (u0, u1, z.1, z.2))) (fun z => K (.inr (u0, u1, u2, z)))) :=
  laws_eqWriteS_lw0 h0 u0 0  Fuel rfl (lwl_fuel h0)

def laws_eqWriteS_t (a0 : (List dWrite)) (a1 : (List dWrite)) (k : Bool → Option Res) : Option Res :=
  bif ((a0.length : Int) != (a1.length : Int)) then
    k false
  else
    laws_eqWriteS_w0 a0 a1 false a0  0 (Sum.elim (fun z13 =>
      k z13.1) (fun _ =>
      k true))

theorem laws_eqWriteS_r {a0 : (List dWrite)} {a1 : (List dWrite)} (h0 : a0.length < 9223372036854775807) {k : Bool → Option Res} : laws_eqWriteS_k a0 a1 k = laws_eqWriteS_t a0 a1 k := by
  rw [laws_eqWriteS_e]
  simp only [laws_eqWriteS_d, laws_eqWriteS_t, (laws_eqWriteS_lz0 h0), Sum.elim_inl, Sum.elim_inr]

def laws_eqTxnS_w0 (u0 : (List dTxn)) (u1 : (List dTxn)) (u2 : Bool) : List dTxn → Nat → (((Bool × Int) ⊕ Int) → Option Res) → Option Res
  | [], i, k =>
    k (.inr (i : Int))
  | y :: l, i, k =>
    if 0 ≤ (i : Int) ∧ (i : Int) < (u1.length : Int) then
      laws_eqTxn_k y (rd (Ty.zero tTxn) u1 (i : Int)) (fun y1 =>
        bif (!y1) then
          k (.inl (false, (i : Int)))
        else
          laws_eqTxnS_w0 u0 u1 u2 l (i + 1) k)
    else none

theorem laws_eqTxnS_lw0 {u0 : (List dTxn)} {u1 : (List dTxn)} {u2 : Bool} (h0 : u0.length < 9223372036854775807) {K : (((List dTxn) × (List dTxn) × Bool × Int) ⊕ ((List dTxn) × (List dTxn) × Bool × Int)) → Option Res} : ∀ (l : List dTxn) (i : Nat)  (n : Nat), u0.drop i = l → l.length < n → loopK laws_eqTxnS_b0 n (u0, u1, u2, (i : Int)) K = laws_eqTxnS_w0 u0 u1 u2 l  i (Sum.elim (fun z => K (.inl (u0, u1, z.1, z.2))) (fun z => K (.inr (u0, u1, u2, z)))) := by
  intro l
  induction l with
  | nil =>
    intro i  n hd hn
    have hge := lwl_nil hd
    cases n with
    | zero => exact absurd hn (Nat.not_lt_zero _)
    | succ n => simp only [loopK, laws_eqTxnS_b0, laws_eqTxnS_w0, hge, decide_false, cond_false, Sum.elim_inr, Sum.elim_inl]
  | cons y l ih =>
    intro i  n hd hn
    obtain ⟨hlt, hz, hd2, hw, hnn⟩ := lwl_cons hd h0
    have hy := lwl_get hd
    cases n with
    | zero => exact absurd hn (Nat.not_lt_zero _)
    | succ n =>
      have ih2 := ih (i + 1)  n hd2 (Nat.lt_of_succ_lt_succ hn)
      simp only [loopK, laws_eqTxnS_b0, laws_eqTxnS_w0, hlt, hz, decide_true, cond_true, and_self, if_true, hy, hw, hnn, Sum.elim_inl, Sum.elim_inr, ih2]

theorem laws_eqTxnS_lz0 {u0 : (List dTxn)} {u1 : (List dTxn)} {u2 : Bool} (h0 : u0.length < 9223372036854775807) {K : (((List dTxn) × (List dTxn) × Bool × Int) ⊕ ((List dTxn) × (List dTxn) × Bool × Int)) → Option Res}  : loopK laws_eqTxnS_b0 Fuel (u0, u1, u2, (0 : Int)) K = laws_eqTxnS_w0 u0 u1 u2 u0  0 (Sum.elim (fun z => K (.inl (u0, u1, z.1, z.2))) (fun z => K (.inr (u0, u1, u2, z)))) :=
  laws_eqTxnS_lw0 h0 u0 0  Fuel rfl (lwl_fuel h0)

def laws_eqTxnS_t (a0 : (List dTxn)) (a1 : (List dTxn)) (k : Bool → Option Res) : Option Res :=
  bif ((a0.length : Int) != (a1.length : Int)) then
    k false
  else
    laws_eqTxnS_w0 a0 a1 false a0  0 (Sum.elim (fun z13 =>
      k z13.1) (fun _ =>
      k true))

theorem laws_eqTxnS_r {a0 : (List dTxn)} {a1 : (List dTxn)} (h0 : a0.length < 9223372036854775807) {k : Bool → Option Res} : laws_eqTxnS_k a0 a1 k = laws_eqTxnS_t a0 a1 k := by
  rw [laws_eqTxnS_e]
  simp only [laws_eqTxnS_d, laws_eqTxnS_t, (laws_eqTxnS_lz0 h0), Sum.elim_inl, Sum.elim_inr]

end

end Go.VE
