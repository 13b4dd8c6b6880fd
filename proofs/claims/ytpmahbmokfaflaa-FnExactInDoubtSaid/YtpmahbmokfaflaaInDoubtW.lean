/- Loops told as recursions over what is left; written by gen.py. -/

import Derived.Test.YtpmahbmokfaflaaInDoubtN

import Derived.Test.YtpmahbmokfaflaaP1

namespace Go.VE

noncomputable section

set_option linter.unusedVariables false
set_option linter.unusedSimpArgs false
set_option maxRecDepth 100000


def laws_szVersionS_w0 (u0 : (List dVersion)) (u2 : Int) : List dVersion → Int → Nat → (((Int × Int × Int) ⊕ (Int × Int)) → Option Res) → Option Res
  | [], s1, i, k =>
    k (.inr (s1, (i : Int)))
  | y :: l, s1, i, k =>
    laws_szVersion_k y s1 (fun y1 =>
      bif (decide (y1 < (0 : Int))) then
        k (.inl (y1, (-1 : Int), (i : Int)))
      else
        laws_szVersionS_w0 u0 u2 l y1 (i + 1) k)

theorem laws_szVersionS_lw0 {u0} {u2} (h0 : u0.length < 9223372036854775807) {K : (((List dVersion) × Int × Int × Int) ⊕ ((List dVersion) × Int × Int × Int)) → Option Res} : ∀ (l : List dVersion) (i : Nat) (s1 : Int) (n : Nat), u0.drop i = l → l.length < n → loopK laws_szVersionS_b0 n (u0, s1, u2, (i : Int)) K = laws_szVersionS_w0 u0 u2 l s1 i (Sum.elim (fun z => K (.inl (u0, z.1, z.2.1, z.2.2))) (fun z => K (.inr (u0, z.1, u2, z.2)))) := by
  intro l
  induction l with
  | nil =>
    intro i s1 n hd hn
    have hge := lwl_nil hd
    cases n with
    | zero => exact absurd hn (Nat.not_lt_zero _)
    | succ n => simp only [loopK, laws_szVersionS_b0, laws_szVersionS_w0, hge, decide_false, cond_false, Sum.elim_inr, Sum.elim_inl]
  | cons y l ih =>
    intro i s1 n hd hn
    obtain ⟨hlt, hz, hd2, hw, hnn⟩ := lwl_cons hd h0
    have hy := lwl_get hd
    cases n with
    | zero => exact absurd hn (Nat.not_lt_zero _)
    | succ n =>
      have ih2 := fun (s1 : Int) => ih (i + 1) s1 n hd2 (Nat.lt_of_succ_lt_succ hn)
      simp only [loopK, laws_szVersionS_b0, laws_szVersionS_w0, hlt, hz, decide_true, cond_true, and_self, if_true, hy, hw, hnn, Sum.elim_inl, Sum.elim_inr, ih2]

theorem laws_szVersionS_lz0 {u0} {u2} (h0 : u0.length < 9223372036854775807) {K : (((List dVersion) × Int × Int × Int) ⊕ ((List dVersion) × Int × Int × Int)) → Option Res} {s1 : Int} : loopK laws_szVersionS_b0 Fuel (u0, s1, u2, (0 : Int)) K = laws_szVersionS_w0 u0 u2 u0 s1 0 (Sum.elim (fun z => K (.inl (u0, z.1, z.2.1, z.2.2))) (fun z => K (.inr (u0, z.1, u2, z.2)))) :=
  laws_szVersionS_lw0 h0 u0 0 s1 Fuel rfl (lwl_fuel h0)

def laws_szRangeS_w0 (u0 : (List dRange)) (u2 : Int) : List dRange → Int → Nat → (((Int × Int × Int) ⊕ (Int × Int)) → Option Res) → Option Res
  | [], s1, i, k =>
    k (.inr (s1, (i : Int)))
  | y :: l, s1, i, k =>
    laws_szRange_k y s1 (fun y1 =>
      bif (decide (y1 < (0 : Int))) then
        k (.inl (y1, (-1 : Int), (i : Int)))
      else
        laws_szRangeS_w0 u0 u2 l y1 (i + 1) k)

theorem laws_szRangeS_lw0 {u0} {u2} (h0 : u0.length < 9223372036854775807) {K : (((List dRange) × Int × Int × Int) ⊕ ((List dRange) × Int × Int × Int)) → Option Res} : ∀ (l : List dRange) (i : Nat) (s1 : Int) (n : Nat), u0.drop i = l → l.length < n → loopK laws_szRangeS_b0 n (u0, s1, u2, (i : Int)) K = laws_szRangeS_w0 u0 u2 l s1 i (Sum.elim (fun z => K (.inl (u0, z.1, z.2.1, z.2.2))) (fun z => K (.inr (u0, z.1, u2, z.2)))) := by
  intro l
  induction l with
  | nil =>
    intro i s1 n hd hn
    have hge := lwl_nil hd
    cases n with
    | zero => exact absurd hn (Nat.not_lt_zero _)
    | succ n => simp only [loopK, laws_szRangeS_b0, laws_szRangeS_w0, hge, decide_false, cond_false, Sum.elim_inr, Sum.elim_inl]
  | cons y l ih =>
    intro i s1 n hd hn
    obtain ⟨hlt, hz, hd2, hw, hnn⟩ := lwl_cons hd h0
    have hy := lwl_get hd
    cases n with
    | zero => exact absurd hn (Nat.not_lt_zero _)
    | succ n =>
      have ih2 := fun (s1 : Int) => ih (i + 1) s1 n hd2 (Nat.lt_of_succ_lt_succ hn)
      simp only [loopK, laws_szRangeS_b0, laws_szRangeS_w0, hlt, hz, decide_true, cond_true, and_self, if_true, hy, hw, hnn, Sum.elim_inl, Sum.elim_inr, ih2]

theorem laws_szRangeS_lz0 {u0} {u2} (h0 : u0.length < 9223372036854775807) {K : (((List dRange) × Int × Int × Int) ⊕ ((List dRange) × Int × Int × Int)) → Option Res} {s1 : Int} : loopK laws_szRangeS_b0 Fuel (u0, s1, u2, (0 : Int)) K = laws_szRangeS_w0 u0 u2 u0 s1 0 (Sum.elim (fun z => K (.inl (u0, z.1, z.2.1, z.2.2))) (fun z => K (.inr (u0, z.1, u2, z.2)))) :=
  laws_szRangeS_lw0 h0 u0 0 s1 Fuel rfl (lwl_fuel h0)

def laws_szWriteS_w0 (u0 : (List dWrite)) (u2 : Int) : List dWrite → Int → Nat → (((Int × Int × Int) ⊕ (Int × Int)) → Option Res) → Option Res
  | [], s1, i, k =>
    k (.inr (s1, (i : Int)))
  | y :: l, s1, i, k =>
    laws_szWrite_k y s1 (fun y1 =>
      bif (decide (y1 < (0 : Int))) then
        k (.inl (y1, (-1 : Int), (i : Int)))
      else
        laws_szWriteS_w0 u0 u2 l y1 (i + 1) k)

theorem laws_szWriteS_lw0 {u0} {u2} (h0 : u0.length < 9223372036854775807) {K : (((List dWrite) × Int × Int × Int) ⊕ ((List dWrite) × Int × Int × Int)) → Option Res} : ∀ (l : List dWrite) (i : Nat) (s1 : Int) (n : Nat), u0.drop i = l → l.length < n → loopK laws_szWriteS_b0 n (u0, s1, u2, (i : Int)) K = laws_szWriteS_w0 u0 u2 l s1 i (Sum.elim (fun z => K (.inl (u0, z.1, z.2.1, z.2.2))) (fun z => K (.inr (u0, z.1, u2, z.2)))) := by
  intro l
  induction l with
  | nil =>
    intro i s1 n hd hn
    have hge := lwl_nil hd
    cases n with
    | zero => exact absurd hn (Nat.not_lt_zero _)
    | succ n => simp only [loopK, laws_szWriteS_b0, laws_szWriteS_w0, hge, decide_false, cond_false, Sum.elim_inr, Sum.elim_inl]
  | cons y l ih =>
    intro i s1 n hd hn
    obtain ⟨hlt, hz, hd2, hw, hnn⟩ := lwl_cons hd h0
    have hy := lwl_get hd
    cases n with
    | zero => exact absurd hn (Nat.not_lt_zero _)
    | succ n =>
      have ih2 := fun (s1 : Int) => ih (i + 1) s1 n hd2 (Nat.lt_of_succ_lt_succ hn)
      simp only [loopK, laws_szWriteS_b0, laws_szWriteS_w0, hlt, hz, decide_true, cond_true, and_self, if_true, hy, hw, hnn, Sum.elim_inl, Sum.elim_inr, ih2]

theorem laws_szWriteS_lz0 {u0} {u2} (h0 : u0.length < 9223372036854775807) {K : (((List dWrite) × Int × Int × Int) ⊕ ((List dWrite) × Int × Int × Int)) → Option Res} {s1 : Int} : loopK laws_szWriteS_b0 Fuel (u0, s1, u2, (0 : Int)) K = laws_szWriteS_w0 u0 u2 u0 s1 0 (Sum.elim (fun z => K (.inl (u0, z.1, z.2.1, z.2.2))) (fun z => K (.inr (u0, z.1, u2, z.2)))) :=
  laws_szWriteS_lw0 h0 u0 0 s1 Fuel rfl (lwl_fuel h0)

def laws_szTxnS_w0 (u0 : (List dTxn)) (u2 : Int) : List dTxn → Int → Nat → (((Int × Int × Int) ⊕ (Int × Int)) → Option Res) → Option Res
  | [], s1, i, k =>
    k (.inr (s1, (i : Int)))
  | y :: l, s1, i, k =>
    laws_szTxn_k y s1 (fun y1 =>
      bif (decide (y1 < (0 : Int))) then
        k (.inl (y1, (-1 : Int), (i : Int)))
      else
        laws_szTxnS_w0 u0 u2 l y1 (i + 1) k)

theorem laws_szTxnS_lw0 {u0} {u2} (h0 : u0.length < 9223372036854775807) {K : (((List dTxn) × Int × Int × Int) ⊕ ((List dTxn) × Int × Int × Int)) → Option Res} : ∀ (l : List dTxn) (i : Nat) (s1 : Int) (n : Nat), u0.drop i = l → l.length < n → loopK laws_szTxnS_b0 n (u0, s1, u2, (i : Int)) K = laws_szTxnS_w0 u0 u2 l s1 i (Sum.elim (fun z => K (.inl (u0, z.1, z.2.1, z.2.2))) (fun z => K (.inr (u0, z.1, u2, z.2)))) := by
  intro l
  induction l with
  | nil =>
    intro i s1 n hd hn
    have hge := lwl_nil hd
    cases n with
    | zero => exact absurd hn (Nat.not_lt_zero _)
    | succ n => simp only [loopK, laws_szTxnS_b0, laws_szTxnS_w0, hge, decide_false, cond_false, Sum.elim_inr, Sum.elim_inl]
  | cons y l ih =>
    intro i s1 n hd hn
    obtain ⟨hlt, hz, hd2, hw, hnn⟩ := lwl_cons hd h0
    have hy := lwl_get hd
    cases n with
    | zero => exact absurd hn (Nat.not_lt_zero _)
    | succ n =>
      have ih2 := fun (s1 : Int) => ih (i + 1) s1 n hd2 (Nat.lt_of_succ_lt_succ hn)
      simp only [loopK, laws_szTxnS_b0, laws_szTxnS_w0, hlt, hz, decide_true, cond_true, and_self, if_true, hy, hw, hnn, Sum.elim_inl, Sum.elim_inr, ih2]

theorem laws_szTxnS_lz0 {u0} {u2} (h0 : u0.length < 9223372036854775807) {K : (((List dTxn) × Int × Int × Int) ⊕ ((List dTxn) × Int × Int × Int)) → Option Res} {s1 : Int} : loopK laws_szTxnS_b0 Fuel (u0, s1, u2, (0 : Int)) K = laws_szTxnS_w0 u0 u2 u0 s1 0 (Sum.elim (fun z => K (.inl (u0, z.1, z.2.1, z.2.2))) (fun z => K (.inr (u0, z.1, u2, z.2)))) :=
  laws_szTxnS_lw0 h0 u0 0 s1 Fuel rfl (lwl_fuel h0)

def laws_szStringS_w0 (u0 : (List ByteArray)) (u2 : Int) : List ByteArray → Int → Nat → (((Int × Int × Int) ⊕ (Int × Int)) → Option Res) → Option Res
  | [], s1, i, k =>
    k (.inr (s1, (i : Int)))
  | y :: l, s1, i, k =>
    bif (decide ((IntKind.wrap .i64 (s1 - (y.size : Int))) < (0 : Int))) then
      k (.inl ((IntKind.wrap .i64 (s1 - (y.size : Int))), (-1 : Int), (i : Int)))
    else
      laws_szStringS_w0 u0 u2 l (IntKind.wrap .i64 (s1 - (y.size : Int))) (i + 1) k

theorem laws_szStringS_lw0 {u0} {u2} (h0 : u0.length < 9223372036854775807) {K : (((List ByteArray) × Int × Int × Int) ⊕ ((List ByteArray) × Int × Int × Int)) → Option Res} : ∀ (l : List ByteArray) (i : Nat) (s1 : Int) (n : Nat), u0.drop i = l → l.length < n → loopK laws_szStringS_b0 n (u0, s1, u2, (i : Int)) K = laws_szStringS_w0 u0 u2 l s1 i (Sum.elim (fun z => K (.inl (u0, z.1, z.2.1, z.2.2))) (fun z => K (.inr (u0, z.1, u2, z.2)))) := by
  intro l
  induction l with
  | nil =>
    intro i s1 n hd hn
    have hge := lwl_nil hd
    cases n with
    | zero => exact absurd hn (Nat.not_lt_zero _)
    | succ n => simp only [loopK, laws_szStringS_b0, laws_szStringS_w0, hge, decide_false, cond_false, Sum.elim_inr, Sum.elim_inl]
  | cons y l ih =>
    intro i s1 n hd hn
    obtain ⟨hlt, hz, hd2, hw, hnn⟩ := lwl_cons hd h0
    have hy := lwl_get hd
    cases n with
    | zero => exact absurd hn (Nat.not_lt_zero _)
    | succ n =>
      have ih2 := fun (s1 : Int) => ih (i + 1) s1 n hd2 (Nat.lt_of_succ_lt_succ hn)
      simp only [loopK, laws_szStringS_b0, laws_szStringS_w0, hlt, hz, decide_true, cond_true, and_self, if_true, hy, hw, hnn, Sum.elim_inl, Sum.elim_inr, ih2]

theorem laws_szStringS_lz0 {u0} {u2} (h0 : u0.length < 9223372036854775807) {K : (((List ByteArray) × Int × Int × Int) ⊕ ((List ByteArray) × Int × Int × Int)) → Option Res} {s1 : Int} : loopK laws_szStringS_b0 Fuel (u0, s1, u2, (0 : Int)) K = laws_szStringS_w0 u0 u2 u0 s1 0 (Sum.elim (fun z => K (.inl (u0, z.1, z.2.1, z.2.2))) (fun z => K (.inr (u0, z.1, u2, z.2)))) :=
  laws_szStringS_lw0 h0 u0 0 s1 Fuel rfl (lwl_fuel h0)

def laws_szPutS_w0 (u0 : (List dPut)) (u2 : Int) : List dPut → Int → Nat → (((Int × Int × Int) ⊕ (Int × Int)) → Option Res) → Option Res
  | [], s1, i, k =>
    k (.inr (s1, (i : Int)))
  | y :: l, s1, i, k =>
    laws_szPut_k y s1 (fun y1 =>
      bif (decide (y1 < (0 : Int))) then
        k (.inl (y1, (-1 : Int), (i : Int)))
      else
        laws_szPutS_w0 u0 u2 l y1 (i + 1) k)

theorem laws_szPutS_lw0 {u0} {u2} (h0 : u0.length < 9223372036854775807) {K : (((List dPut) × Int × Int × Int) ⊕ ((List dPut) × Int × Int × Int)) → Option Res} : ∀ (l : List dPut) (i : Nat) (s1 : Int) (n : Nat), u0.drop i = l → l.length < n → loopK laws_szPutS_b0 n (u0, s1, u2, (i : Int)) K = laws_szPutS_w0 u0 u2 l s1 i (Sum.elim (fun z => K (.inl (u0, z.1, z.2.1, z.2.2))) (fun z => K (.inr (u0, z.1, u2, z.2)))) := by
  intro l
  induction l with
  | nil =>
    intro i s1 n hd hn
    have hge := lwl_nil hd
    cases n with
    | zero => exact absurd hn (Nat.not_lt_zero _)
    | succ n => simp only [loopK, laws_szPutS_b0, laws_szPutS_w0, hge, decide_false, cond_false, Sum.elim_inr, Sum.elim_inl]
  | cons y l ih =>
    intro i s1 n hd hn
    obtain ⟨hlt, hz, hd2, hw, hnn⟩ := lwl_cons hd h0
    have hy := lwl_get hd
    cases n with
    | zero => exact absurd hn (Nat.not_lt_zero _)
    | succ n =>
      have ih2 := fun (s1 : Int) => ih (i + 1) s1 n hd2 (Nat.lt_of_succ_lt_succ hn)
      simp only [loopK, laws_szPutS_b0, laws_szPutS_w0, hlt, hz, decide_true, cond_true, and_self, if_true, hy, hw, hnn, Sum.elim_inl, Sum.elim_inr, ih2]

theorem laws_szPutS_lz0 {u0} {u2} (h0 : u0.length < 9223372036854775807) {K : (((List dPut) × Int × Int × Int) ⊕ ((List dPut) × Int × Int × Int)) → Option Res} {s1 : Int} : loopK laws_szPutS_b0 Fuel (u0, s1, u2, (0 : Int)) K = laws_szPutS_w0 u0 u2 u0 s1 0 (Sum.elim (fun z => K (.inl (u0, z.1, z.2.1, z.2.2))) (fun z => K (.inr (u0, z.1, u2, z.2)))) :=
  laws_szPutS_lw0 h0 u0 0 s1 Fuel rfl (lwl_fuel h0)

def laws_toVersionS_w0 (u0 : (List dVersion)) : List dVersion → (List dVersion) → Nat → ((Int × (List dVersion)) → Option Res) → Option Res
  | [], s2, i, k =>
    k ((i : Int), s2)
  | y :: l, s2, i, k =>
    laws_toVersion_k y (fun y1 =>
      if 0 ≤ (i : Int) ∧ (i : Int) < (s2.length : Int) then
        laws_toVersionS_w0 u0 l (s2.set (i : Int).toNat y1) (i + 1) k
      else none)

theorem laws_toVersionS_lw0 {u0} (h0 : u0.length < 9223372036854775807) {K : ((List dVersion) × Int × (List dVersion)) → Option Res} : ∀ (l : List dVersion) (i : Nat) (s2 : (List dVersion)) (n : Nat), u0.drop i = l → l.length < n → loopK laws_toVersionS_b0 n (u0, (i : Int), s2) K = laws_toVersionS_w0 u0 l s2 i (fun z => K (u0, z.1, z.2)) := by
  intro l
  induction l with
  | nil =>
    intro i s2 n hd hn
    have hge := lwl_nil hd
    cases n with
    | zero => exact absurd hn (Nat.not_lt_zero _)
    | succ n => simp only [loopK, laws_toVersionS_b0, laws_toVersionS_w0, hge, decide_false, cond_false, Sum.elim_inr, Sum.elim_inl]
  | cons y l ih =>
    intro i s2 n hd hn
    obtain ⟨hlt, hz, hd2, hw, hnn⟩ := lwl_cons hd h0
    have hy := lwl_get hd
    cases n with
    | zero => exact absurd hn (Nat.not_lt_zero _)
    | succ n =>
      have ih2 := fun (s2 : (List dVersion)) => ih (i + 1) s2 n hd2 (Nat.lt_of_succ_lt_succ hn)
      simp only [loopK, laws_toVersionS_b0, laws_toVersionS_w0, hlt, hz, decide_true, cond_true, and_self, if_true, hy, hw, hnn, Sum.elim_inl, Sum.elim_inr, ih2]

theorem laws_toVersionS_lz0 {u0} (h0 : u0.length < 9223372036854775807) {K : ((List dVersion) × Int × (List dVersion)) → Option Res} {s2 : (List dVersion)} : loopK laws_toVersionS_b0 Fuel (u0, (0 : Int), s2) K = laws_toVersionS_w0 u0 u0 s2 0 (fun z => K (u0, z.1, z.2)) :=
  laws_toVersionS_lw0 h0 u0 0 s2 Fuel rfl (lwl_fuel h0)

def laws_toVersionS_t (a0 : (List dVersion)) (k : (List dVersion) → Option Res) : Option Res :=
  if 0 ≤ (a0.length : Int) ∧ (a0.length : Int) ≤ (a0.length : Int) ∧ (a0.length : Int) ≤ (VE.maxLen : Int) then
    laws_toVersionS_w0 a0 a0 (List.replicate (a0.length : Int).toNat (Ty.zero tVersion)) 0 (fun z18 =>
      k z18.2)
  else none

theorem laws_toVersionS_r {a0 : (List dVersion)} (h0 : a0.length < 9223372036854775807) {k : (List dVersion) → Option Res} : laws_toVersionS_k a0 k = laws_toVersionS_t a0 k := by
  rw [laws_toVersionS_e]
  simp only [laws_toVersionS_d, laws_toVersionS_t, (laws_toVersionS_lz0 h0), Sum.elim_inl, Sum.elim_inr]

def laws_toRangeS_w0 (u0 : (List dRange)) : List dRange → (List dRange) → Nat → ((Int × (List dRange)) → Option Res) → Option Res
  | [], s2, i, k =>
    k ((i : Int), s2)
  | y :: l, s2, i, k =>
    laws_toRange_k y (fun y1 =>
      if 0 ≤ (i : Int) ∧ (i : Int) < (s2.length : Int) then
        laws_toRangeS_w0 u0 l (s2.set (i : Int).toNat y1) (i + 1) k
      else none)

theorem laws_toRangeS_lw0 {u0} (h0 : u0.length < 9223372036854775807) {K : ((List dRange) × Int × (List dRange)) → Option Res} : ∀ (l : List dRange) (i : Nat) (s2 : (List dRange)) (n : Nat), u0.drop i = l → l.length < n → loopK laws_toRangeS_b0 n (u0, (i : Int), s2) K = laws_toRangeS_w0 u0 l s2 i (fun z => K (u0, z.1, z.2)) := by
  intro l
  induction l with
  | nil =>
    intro i s2 n hd hn
    have hge := lwl_nil hd
    cases n with
    | zero => exact absurd hn (Nat.not_lt_zero _)
    | succ n => simp only [loopK, laws_toRangeS_b0, laws_toRangeS_w0, hge, decide_false, cond_false, Sum.elim_inr, Sum.elim_inl]
  | cons y l ih =>
    intro i s2 n hd hn
    obtain ⟨hlt, hz, hd2, hw, hnn⟩ := lwl_cons hd h0
    have hy := lwl_get hd
    cases n with
    | zero => exact absurd hn (Nat.not_lt_zero _)
    | succ n =>
      have ih2 := fun (s2 : (List dRange)) => ih (i + 1) s2 n hd2 (Nat.lt_of_succ_lt_succ hn)
      simp only [loopK, laws_toRangeS_b0, laws_toRangeS_w0, hlt, hz, decide_true, cond_true, and_self, if_true, hy, hw, hnn, Sum.elim_inl, Sum.elim_inr, ih2]

theorem laws_toRangeS_lz0 {u0} (h0 : u0.length < 9223372036854775807) {K : ((List dRange) × Int × (List dRange)) → Option Res} {s2 : (List dRange)} : loopK laws_toRangeS_b0 Fuel (u0, (0 : Int), s2) K = laws_toRangeS_w0 u0 u0 s2 0 (fun z => K (u0, z.1, z.2)) :=
  laws_toRangeS_lw0 h0 u0 0 s2 Fuel rfl (lwl_fuel h0)

def laws_toRangeS_t (a0 : (List dRange)) (k : (List dRange) → Option Res) : Option Res :=
  if 0 ≤ (a0.length : Int) ∧ (a0.length : Int) ≤ (a0.length : Int) ∧ (a0.length : Int) ≤ (VE.maxLen : Int) then
    laws_toRangeS_w0 a0 a0 (List.replicate (a0.length : Int).toNat (Ty.zero tRange)) 0 (fun z18 =>
      k z18.2)
  else none

theorem laws_toRangeS_r {a0 : (List dRange)} (h0 : a0.length < 9223372036854775807) {k : (List dRange) → Option Res} : laws_toRangeS_k a0 k = laws_toRangeS_t a0 k := by
  rw [laws_toRangeS_e]
  simp only [laws_toRangeS_d, laws_toRangeS_t, (laws_toRangeS_lz0 h0), Sum.elim_inl, Sum.elim_inr]

def laws_toWriteS_w0 (u0 : (List dWrite)) : List dWrite → (List dWrite) → Nat → ((Int × (List dWrite)) → Option Res) → Option Res
  | [], s2, i, k =>
    k ((i : Int), s2)
  | y :: l, s2, i, k =>
    laws_toWrite_k y (fun y1 =>
      if 0 ≤ (i : Int) ∧ (i : Int) < (s2.length : Int) then
        laws_toWriteS_w0 u0 l (s2.set (i : Int).toNat y1) (i + 1) k
      else none)

theorem laws_toWriteS_lw0 {u0} (h0 : u0.length < 9223372036854775807) {K : ((List dWrite) × Int × (List dWrite)) → Option Res} : ∀ (l : List dWrite) (i : Nat) (s2 : (List dWrite)) (n : Nat), u0.drop i = l → l.length < n → loopK laws_toWriteS_b0 n (u0, (i : Int), s2) K = laws_toWriteS_w0 u0 l s2 i (fun z => K (u0, z.1, z.2)) := by
  intro l
  induction l with
  | nil =>
    intro i s2 n hd hn
    have hge := lwl_nil hd
    cases n with
    | zero => exact absurd hn (Nat.not_lt_zero _)
    | succ n => simp only [loopK, laws_toWriteS_b0, laws_toWriteS_w0, hge, decide_false, cond_false, Sum.elim_inr, Sum.elim_inl]
  | cons y l ih =>
    intro i s2 n hd hn
    obtain ⟨hlt, hz, hd2, hw, hnn⟩ := lwl_cons hd h0
    have hy := lwl_get hd
    cases n with
    | zero => exact absurd hn (Nat.not_lt_zero _)
    | succ n =>
      have ih2 := fun (s2 : (List dWrite)) => ih (i + 1) s2 n hd2 (Nat.lt_of_succ_lt_succ hn)
      simp only [loopK, laws_toWriteS_b0, laws_toWriteS_w0, hlt, hz, decide_true, cond_true, and_self, if_true, hy, hw, hnn, Sum.elim_inl, Sum.elim_inr, ih2]

theorem laws_toWriteS_lz0 {u0} (h0 : u0.length < 9223372036854775807) {K : ((List dWrite) × Int × (List dWrite)) → Option Res} {s2 : (List dWrite)} : loopK laws_toWriteS_b0 Fuel (u0, (0 : Int), s2) K = laws_toWriteS_w0 u0 u0 s2 0 (fun z => K (u0, z.1, z.2)) :=
  laws_toWriteS_lw0 h0 u0 0 s2 Fuel rfl (lwl_fuel h0)

def laws_toWriteS_t (a0 : (List dWrite)) (k : (List dWrite) → Option Res) : Option Res :=
  if 0 ≤ (a0.length : Int) ∧ (a0.length : Int) ≤ (a0.length : Int) ∧ (a0.length : Int) ≤ (VE.maxLen : Int) then
    laws_toWriteS_w0 a0 a0 (List.replicate (a0.length : Int).toNat (Ty.zero tWrite)) 0 (fun z18 =>
      k z18.2)
  else none

theorem laws_toWriteS_r {a0 : (List dWrite)} (h0 : a0.length < 9223372036854775807) {k : (List dWrite) → Option Res} : laws_toWriteS_k a0 k = laws_toWriteS_t a0 k := by
  rw [laws_toWriteS_e]
  simp only [laws_toWriteS_d, laws_toWriteS_t, (laws_toWriteS_lz0 h0), Sum.elim_inl, Sum.elim_inr]

def laws_toTxnS_w0 (u0 : (List dTxn)) : List dTxn → (List dTxn) → Nat → ((Int × (List dTxn)) → Option Res) → Option Res
  | [], s2, i, k =>
    k ((i : Int), s2)
  | y :: l, s2, i, k =>
    laws_toTxn_k y (fun y1 =>
      if 0 ≤ (i : Int) ∧ (i : Int) < (s2.length : Int) then
        laws_toTxnS_w0 u0 l (s2.set (i : Int).toNat (y1.1, (y1.2.1, (y1.2.2.1, (y1.2.2.2.1, (y1.2.2.2.2.2.2.1, (y1.2.2.2.2.2.2.2, (y1.2.2.2.2.1, y1.2.2.2.2.2.1)))))))) (i + 1) k
      else none)

theorem laws_toTxnS_lw0 {u0} (h0 : u0.length < 9223372036854775807) {K : ((List dTxn) × Int × (List dTxn)) → Option Res} : ∀ (l : List dTxn) (i : Nat) (s2 : (List dTxn)) (n : Nat), u0.drop i = l → l.length < n → loopK laws_toTxnS_b0 n (u0, (i : Int), s2) K = laws_toTxnS_w0 u0 l s2 i (fun z => K (u0, z.1, z.2)) := by
  intro l
  induction l with
  | nil =>
    intro i s2 n hd hn
    have hge := lwl_nil hd
    cases n with
    | zero => exact absurd hn (Nat.not_lt_zero _)
    | succ n => simp only [loopK, laws_toTxnS_b0, laws_toTxnS_w0, hge, decide_false, cond_false, Sum.elim_inr, Sum.elim_inl]
  | cons y l ih =>
    intro i s2 n hd hn
    obtain ⟨hlt, hz, hd2, hw, hnn⟩ := lwl_cons hd h0
    have hy := lwl_get hd
    cases n with
    | zero => exact absurd hn (Nat.not_lt_zero _)
    | succ n =>
      have ih2 := fun (s2 : (List dTxn)) => ih (i + 1) s2 n hd2 (Nat.lt_of_succ_lt_succ hn)
      simp only [loopK, laws_toTxnS_b0, laws_toTxnS_w0, hlt, hz, decide_true, cond_true, and_self, if_true, hy, hw, hnn, Sum.elim_inl, Sum.elim_inr, ih2]

theorem laws_toTxnS_lz0 {u0} (h0 : u0.length < 9223372036854775807) {K : ((List dTxn) × Int × (List dTxn)) → Option Res} {s2 : (List dTxn)} : loopK laws_toTxnS_b0 Fuel (u0, (0 : Int), s2) K = laws_toTxnS_w0 u0 u0 s2 0 (fun z => K (u0, z.1, z.2)) :=
  laws_toTxnS_lw0 h0 u0 0 s2 Fuel rfl (lwl_fuel h0)

def laws_toTxnS_t (a0 : (List dTxn)) (k : (List dTxn) → Option Res) : Option Res :=
  if 0 ≤ (a0.length : Int) ∧ (a0.length : Int) ≤ (a0.length : Int) ∧ (a0.length : Int) ≤ (VE.maxLen : Int) then
    laws_toTxnS_w0 a0 a0 (List.replicate (a0.length : Int).toNat (Ty.zero tTxn)) 0 (fun z18 =>
      k z18.2)
  else none

theorem laws_toTxnS_r {a0 : (List dTxn)} (h0 : a0.length < 9223372036854775807) {k : (List dTxn) → Option Res} : laws_toTxnS_k a0 k = laws_toTxnS_t a0 k := by
  rw [laws_toTxnS_e]
  simp only [laws_toTxnS_d, laws_toTxnS_t, (laws_toTxnS_lz0 h0), Sum.elim_inl, Sum.elim_inr]

def laws_toStringS_w0 (u0 : (List ByteArray)) : List ByteArray → (List ByteArray) → Nat → ((Int × (List ByteArray)) → Option Res) → Option Res
  | [], s2, i, k =>
    k ((i : Int), s2)
  | y :: l, s2, i, k =>
    if 0 ≤ (i : Int) ∧ (i : Int) < (s2.length : Int) then
      laws_toStringS_w0 u0 l (s2.set (i : Int).toNat y) (i + 1) k
    else none

theorem laws_toStringS_lw0 {u0} (h0 : u0.length < 9223372036854775807) {K : ((List ByteArray) × Int × (List ByteArray)) → Option Res} : ∀ (l : List ByteArray) (i : Nat) (s2 : (List ByteArray)) (n : Nat), u0.drop i = l → l.length < n → loopK laws_toStringS_b0 n (u0, (i : Int), s2) K = laws_toStringS_w0 u0 l s2 i (fun z => K (u0, z.1, z.2)) := by
  intro l
  induction l with
  | nil =>
    intro i s2 n hd hn
    have hge := lwl_nil hd
    cases n with
    | zero => exact absurd hn (Nat.not_lt_zero _)
    | succ n => simp only [loopK, laws_toStringS_b0, laws_toStringS_w0, hge, decide_false, cond_false, Sum.elim_inr, Sum.elim_inl]
  | cons y l ih =>
    intro i s2 n hd hn
    obtain ⟨hlt, hz, hd2, hw, hnn⟩ := lwl_cons hd h0
    have hy := lwl_get hd
    cases n with
    | zero => exact absurd hn (Nat.not_lt_zero _)
    | succ n =>
      have ih2 := fun (s2 : (List ByteArray)) => ih (i + 1) s2 n hd2 (Nat.lt_of_succ_lt_succ hn)
      simp only [loopK, laws_toStringS_b0, laws_toStringS_w0, hlt, hz, decide_true, cond_true, and_self, if_true, hy, hw, hnn, Sum.elim_inl, Sum.elim_inr, ih2]

theorem laws_toStringS_lz0 {u0} (h0 : u0.length < 9223372036854775807) {K : ((List ByteArray) × Int × (List ByteArray)) → Option Res} {s2 : (List ByteArray)} : loopK laws_toStringS_b0 Fuel (u0, (0 : Int), s2) K = laws_toStringS_w0 u0 u0 s2 0 (fun z => K (u0, z.1, z.2)) :=
  laws_toStringS_lw0 h0 u0 0 s2 Fuel rfl (lwl_fuel h0)

def laws_toStringS_t (a0 : (List ByteArray)) (k : (List ByteArray) → Option Res) : Option Res :=
  if 0 ≤ (a0.length : Int) ∧ (a0.length : Int) ≤ (a0.length : Int) ∧ (a0.length : Int) ≤ (VE.maxLen : Int) then
    laws_toStringS_w0 a0 a0 (List.replicate (a0.length : Int).toNat (Ty.zero .str)) 0 (fun z18 =>
      k z18.2)
  else none

theorem laws_toStringS_r {a0 : (List ByteArray)} (h0 : a0.length < 9223372036854775807) {k : (List ByteArray) → Option Res} : laws_toStringS_k a0 k = laws_toStringS_t a0 k := by
  rw [laws_toStringS_e]
  simp only [laws_toStringS_d, laws_toStringS_t, (laws_toStringS_lz0 h0), Sum.elim_inl, Sum.elim_inr]

def laws_toPutS_w0 (u0 : (List dPut)) : List dPut → (List dPut) → Nat → ((Int × (List dPut)) → Option Res) → Option Res
  | [], s2, i, k =>
    k ((i : Int), s2)
  | y :: l, s2, i, k =>
    laws_toPut_k y (fun y1 =>
      if 0 ≤ (i : Int) ∧ (i : Int) < (s2.length : Int) then
        laws_toPutS_w0 u0 l (s2.set (i : Int).toNat y1) (i + 1) k
      else none)

theorem laws_toPutS_lw0 {u0} (h0 : u0.length < 9223372036854775807) {K : ((List dPut) × Int × (List dPut)) → Option Res} : ∀ (l : List dPut) (i : Nat) (s2 : (List dPut)) (n : Nat), u0.drop i = l → l.length < n → loopK laws_toPutS_b0 n (u0, (i : Int), s2) K = laws_toPutS_w0 u0 l s2 i (fun z => K (u0, z.1, z.2)) := by
  intro l
  induction l with
  | nil =>
    intro i s2 n hd hn
    have hge := lwl_nil hd
    cases n with
    | zero => exact absurd hn (Nat.not_lt_zero _)
    | succ n => simp only [loopK, laws_toPutS_b0, laws_toPutS_w0, hge, decide_false, cond_false, Sum.elim_inr, Sum.elim_inl]
  | cons y l ih =>
    intro i s2 n hd hn
    obtain ⟨hlt, hz, hd2, hw, hnn⟩ := lwl_cons hd h0
    have hy := lwl_get hd
    cases n with
    | zero => exact absurd hn (Nat.not_lt_zero _)
    | succ n =>
      have ih2 := fun (s2 : (List dPut)) => ih (i + 1) s2 n hd2 (Nat.lt_of_succ_lt_succ hn)
      simp only [loopK, laws_toPutS_b0, laws_toPutS_w0, hlt, hz, decide_true, cond_true, and_self, if_true, hy, hw, hnn, Sum.elim_inl, Sum.elim_inr, ih2]

theorem laws_toPutS_lz0 {u0} (h0 : u0.length < 9223372036854775807) {K : ((List dPut) × Int × (List dPut)) → Option Res} {s2 : (List dPut)} : loopK laws_toPutS_b0 Fuel (u0, (0 : Int), s2) K = laws_toPutS_w0 u0 u0 s2 0 (fun z => K (u0, z.1, z.2)) :=
  laws_toPutS_lw0 h0 u0 0 s2 Fuel rfl (lwl_fuel h0)

def laws_toPutS_t (a0 : (List dPut)) (k : (List dPut) → Option Res) : Option Res :=
  if 0 ≤ (a0.length : Int) ∧ (a0.length : Int) ≤ (a0.length : Int) ∧ (a0.length : Int) ≤ (VE.maxLen : Int) then
    laws_toPutS_w0 a0 a0 (List.replicate (a0.length : Int).toNat (Ty.zero tPut)) 0 (fun z18 =>
      k z18.2)
  else none

theorem laws_toPutS_r {a0 : (List dPut)} (h0 : a0.length < 9223372036854775807) {k : (List dPut) → Option Res} : laws_toPutS_k a0 k = laws_toPutS_t a0 k := by
  rw [laws_toPutS_e]
  simp only [laws_toPutS_d, laws_toPutS_t, (laws_toPutS_lz0 h0), Sum.elim_inl, Sum.elim_inr]

def spec_InDoubt_w0 (u1 : (List dVersion)) (u2 : (List dTxn)) (u3 : (List dTxn)) (u4 : Int) (u5 : Int) (u6 : (List dTxn)) (u7 : (List ByteArray)) (u8 : (List dPut)) : List dTxn → (List ByteArray) → Nat → ((Int × (List ByteArray)) → Option Res) → Option Res
  | [], s9, i, k =>
    k ((i : Int), s9)
  | y :: l, s9, i, k =>
    if s9.length + [y.2.2.2.2.2.2.2].length ≤ VE.maxLen then
      spec_InDoubt_w0 u1 u2 u3 u4 u5 u6 u7 u8 l (s9 ++ [y.2.2.2.2.2.2.2]) (i + 1) k
    else none

theorem spec_InDoubt_lw0 {u1} {u2} {u3} {u4} {u5} {u6} {u7} {u8} (h0 : u3.length < 9223372036854775807) {K : (Int × (List dVersion) × (List dTxn) × (List dTxn) × Int × Int × (List dTxn) × (List ByteArray) × (List dPut) × (List ByteArray)) → Option Res} : ∀ (l : List dTxn) (i : Nat) (s9 : (List ByteArray)) (n : Nat), u3.drop i = l → l.length < n → loopK spec_InDoubt_b0 n ((i : Int), u1, u2, u3, u4, u5, u6, u7, u8, s9) K = spec_InDoubt_w0 u1 u2 u3 u4 u5 u6 u7 u8 l s9 i (fun z => K (z.1, u1, u2, u3, u4, u5, u6, u7, u8, z.2)) := by
  intro l
  induction l with
  | nil =>
    intro i s9 n hd hn
    have hge := lwl_nil hd
    cases n with
    | zero => exact absurd hn (Nat.not_lt_zero _)
    | succ n => simp only [loopK, spec_InDoubt_b0, spec_InDoubt_w0, hge, decide_false, cond_false, Sum.elim_inr, Sum.elim_inl]
  | cons y l ih =>
    intro i s9 n hd hn
    obtain ⟨hlt, hz, hd2, hw, hnn⟩ := lwl_cons hd h0
    have hy := lwl_get hd
    cases n with
    | zero => exact absurd hn (Nat.not_lt_zero _)
    | succ n =>
      have ih2 := fun (s9 : (List ByteArray)) => ih (i + 1) s9 n hd2 (Nat.lt_of_succ_lt_succ hn)
      simp only [loopK, spec_InDoubt_b0, spec_InDoubt_w0, hlt, hz, decide_true, cond_true, and_self, if_true, hy, hw, hnn, Sum.elim_inl, Sum.elim_inr, ih2]

theorem spec_InDoubt_lz0 {u1} {u2} {u3} {u4} {u5} {u6} {u7} {u8} (h0 : u3.length < 9223372036854775807) {K : (Int × (List dVersion) × (List dTxn) × (List dTxn) × Int × Int × (List dTxn) × (List ByteArray) × (List dPut) × (List ByteArray)) → Option Res} {s9 : (List ByteArray)} : loopK spec_InDoubt_b0 Fuel ((0 : Int), u1, u2, u3, u4, u5, u6, u7, u8, s9) K = spec_InDoubt_w0 u1 u2 u3 u4 u5 u6 u7 u8 u3 s9 0 (fun z => K (z.1, u1, u2, u3, u4, u5, u6, u7, u8, z.2)) :=
  spec_InDoubt_lw0 h0 u3 0 s9 Fuel rfl (lwl_fuel h0)

def spec_InDoubt_t (a0 : dStore) (k : (List ByteArray) → Option Res) : Option Res :=
  spec_InDoubt_w0 a0.1.1.1 a0.1.1.2.1 a0.1.1.2.2.1 a0.1.1.2.2.2.1 a0.1.1.2.2.2.2 a0.1.2 a0.2.1 a0.2.2 a0.1.1.2.2.1 ([] : List ByteArray) 0 (fun z18 =>
    k z18.2)

theorem spec_InDoubt_r {a0 : dStore} (h0 : a0.1.1.2.2.1.length < 9223372036854775807) {k : (List ByteArray) → Option Res} : spec_InDoubt_k a0 k = spec_InDoubt_t a0 k := by
  rw [spec_InDoubt_e]
  simp only [spec_InDoubt_d, spec_InDoubt_t, (spec_InDoubt_lz0 h0), Sum.elim_inl, Sum.elim_inr]

def impl_InDoubt_w0 (u0 : (List dTxn)) : List dTxn → (List ByteArray) → Nat → ((Int × (List ByteArray)) → Option Res) → Option Res
  | [], s3, i, k =>
    k ((i : Int), s3)
  | y :: l, s3, i, k =>
    if s3.length + [y.2.2.2.2.2.2.2].length ≤ VE.maxLen then
      impl_InDoubt_w0 u0 l (s3 ++ [y.2.2.2.2.2.2.2]) (i + 1) k
    else none

theorem impl_InDoubt_lw0 {u0} (h0 : u0.length < 9223372036854775807) {K : ((List dTxn) × Int × Int × (List ByteArray)) → Option Res} : ∀ (l : List dTxn) (i : Nat) (s3 : (List ByteArray)) (n : Nat), u0.drop i = l → l.length < n → loopK impl_InDoubt_b0 n (u0, (u0.length : Int), (i : Int), s3) K = impl_InDoubt_w0 u0 l s3 i (fun z => K (u0, (u0.length : Int), z.1, z.2)) := by
  intro l
  induction l with
  | nil =>
    intro i s3 n hd hn
    have hge := lwl_nil hd
    cases n with
    | zero => exact absurd hn (Nat.not_lt_zero _)
    | succ n => simp only [loopK, impl_InDoubt_b0, impl_InDoubt_w0, hge, decide_false, cond_false, Sum.elim_inr, Sum.elim_inl]
  | cons y l ih =>
    intro i s3 n hd hn
    obtain ⟨hlt, hz, hd2, hw, hnn⟩ := lwl_cons hd h0
    have hy := lwl_get hd
    cases n with
    | zero => exact absurd hn (Nat.not_lt_zero _)
    | succ n =>
      have ih2 := fun (s3 : (List ByteArray)) => ih (i + 1) s3 n hd2 (Nat.lt_of_succ_lt_succ hn)
      simp only [loopK, impl_InDoubt_b0, impl_InDoubt_w0, hlt, hz, decide_true, cond_true, and_self, if_true, hy, hw, hnn, Sum.elim_inl, Sum.elim_inr, ih2]

theorem impl_InDoubt_lz0 {u0} (h0 : u0.length < 9223372036854775807) {K : ((List dTxn) × Int × Int × (List ByteArray)) → Option Res} {s3 : (List ByteArray)} : loopK impl_InDoubt_b0 Fuel (u0, (u0.length : Int), (0 : Int), s3) K = impl_InDoubt_w0 u0 u0 s3 0 (fun z => K (u0, (u0.length : Int), z.1, z.2)) :=
  impl_InDoubt_lw0 h0 u0 0 s3 Fuel rfl (lwl_fuel h0)

def impl_InDoubt_t (a0 : dStore) (k : (List ByteArray) → Option Res) : Option Res :=
  impl_InDoubt_w0 a0.1.1.2.2.1 a0.1.1.2.2.1 ([] : List ByteArray) 0 (fun z18 =>
    k z18.2)

theorem impl_InDoubt_r {a0 : dStore} (h0 : a0.1.1.2.2.1.length < 9223372036854775807) {k : (List ByteArray) → Option Res} : impl_InDoubt_k a0 k = impl_InDoubt_t a0 k := by
  rw [impl_InDoubt_e]
  simp only [impl_InDoubt_d, impl_InDoubt_t, (impl_InDoubt_lz0 h0), Sum.elim_inl, Sum.elim_inr]

def laws_eqStringS_w0 (u0 : (List ByteArray)) (u1 : (List ByteArray)) (u2 : Bool) : List ByteArray → Nat → (((Bool × Int) ⊕ Int) → Option Res) → Option Res
  | [], i, k =>
    k (.inr (i : Int))
  | y :: l, i, k =>
    if 0 ≤ (i : Int) ∧ (i : Int) < (u1.length : Int) then
      bif (!(strEq y (rd (Ty.zero .str) u1 (i : Int)))) then
        k (.inl (false, (i : Int)))
      else
        laws_eqStringS_w0 u0 u1 u2 l (i + 1) k
    else none

theorem laws_eqStringS_lw0 {u0} {u1} {u2} (h0 : u0.length < 9223372036854775807) {K : (((List ByteArray) × (List ByteArray) × Bool × Int) ⊕ ((List ByteArray) × (List ByteArray) × Bool × Int)) → Option Res} : ∀ (l : List ByteArray) (i : Nat)  (n : Nat), u0.drop i = l → l.length < n → loopK laws_eqStringS_b0 n (u0, u1, u2, (i : Int)) K = laws_eqStringS_w0 u0 u1 u2 l  i (Sum.elim (fun z => K (.inl (u0, u1, z.1, z.2))) (fun z => K (.inr (u0, u1, u2, z)))) := by
  intro l
  induction l with
  | nil =>
    intro i  n hd hn
    have hge := lwl_nil hd
    cases n with
    | zero => exact absurd hn (Nat.not_lt_zero _)
    | succ n => simp only [loopK, laws_eqStringS_b0, laws_eqStringS_w0, hge, decide_false, cond_false, Sum.elim_inr, Sum.elim_inl]
  | cons y l ih =>
    intro i  n hd hn
    obtain ⟨hlt, hz, hd2, hw, hnn⟩ := lwl_cons hd h0
    have hy := lwl_get hd
    cases n with
    | zero => exact absurd hn (Nat.not_lt_zero _)
    | succ n =>
      have ih2 := ih (i + 1)  n hd2 (Nat.lt_of_succ_lt_succ hn)
      simp only [loopK, laws_eqStringS_b0, laws_eqStringS_w0, hlt, hz, decide_true, cond_true, and_self, if_true, hy, hw, hnn, Sum.elim_inl, Sum.elim_inr, ih2]

theorem laws_eqStringS_lz0 {u0} {u1} {u2} (h0 : u0.length < 9223372036854775807) {K : (((List ByteArray) × (List ByteArray) × Bool × Int) ⊕ ((List ByteArray) × (List ByteArray) × Bool × Int)) → Option Res}  : loopK laws_eqStringS_b0 Fuel (u0, u1, u2, (0 : Int)) K = laws_eqStringS_w0 u0 u1 u2 u0  0 (Sum.elim (fun z => K (.inl (u0, u1, z.1, z.2))) (fun z => K (.inr (u0, u1, u2, z)))) :=
  laws_eqStringS_lw0 h0 u0 0  Fuel rfl (lwl_fuel h0)

def laws_eqStringS_t (a0 : (List ByteArray)) (a1 : (List ByteArray)) (k : Bool → Option Res) : Option Res :=
  bif ((a0.length : Int) != (a1.length : Int)) then
    k false
  else
    laws_eqStringS_w0 a0 a1 false a0  0 (Sum.elim (fun z18 =>
      k z18.1) (fun _ =>
      k true))

theorem laws_eqStringS_r {a0 : (List ByteArray)} {a1 : (List ByteArray)} (h0 : a0.length < 9223372036854775807) {k : Bool → Option Res} : laws_eqStringS_k a0 a1 k = laws_eqStringS_t a0 a1 k := by
  rw [laws_eqStringS_e]
  simp only [laws_eqStringS_d, laws_eqStringS_t, (laws_eqStringS_lz0 h0), Sum.elim_inl, Sum.elim_inr]

def laws_eqVersionS_w0 (u0 : (List dVersion)) (u1 : (List dVersion)) (u2 : Bool) : List dVersion → Nat → (((Bool × Int) ⊕ Int) → Option Res) → Option Res
  | [], i, k =>
    k (.inr (i : Int))
  | y :: l, i, k =>
    if 0 ≤ (i : Int) ∧ (i : Int) < (u1.length : Int) then
      laws_eqVersion_k y (rd (Ty.zero tVersion) u1 (i : Int)) (fun y1 =>
        bif (!y1) then
          k (.inl (false, (i : Int)))
        else
          laws_eqVersionS_w0 u0 u1 u2 l (i + 1) k)
    else none

theorem laws_eqVersionS_lw0 {u0} {u1} {u2} (h0 : u0.length < 9223372036854775807) {K : (((List dVersion) × (List dVersion) × Bool × Int) ⊕ ((List dVersion) × (List dVersion) × Bool × Int)) → Option Res} : ∀ (l : List dVersion) (i : Nat)  (n : Nat), u0.drop i = l → l.length < n → loopK laws_eqVersionS_b0 n (u0, u1, u2, (i : Int)) K = laws_eqVersionS_w0 u0 u1 u2 l  i (Sum.elim (fun z => K (.inl (u0, u1, z.1, z.2))) (fun z => K (.inr (u0, u1, u2, z)))) := by
  intro l
  induction l with
  | nil =>
    intro i  n hd hn
    have hge := lwl_nil hd
    cases n with
    | zero => exact absurd hn (Nat.not_lt_zero _)
    | succ n => simp only [loopK, laws_eqVersionS_b0, laws_eqVersionS_w0, hge, decide_false, cond_false, Sum.elim_inr, Sum.elim_inl]
  | cons y l ih =>
    intro i  n hd hn
    obtain ⟨hlt, hz, hd2, hw, hnn⟩ := lwl_cons hd h0
    have hy := lwl_get hd
    cases n with
    | zero => exact absurd hn (Nat.not_lt_zero _)
    | succ n =>
      have ih2 := ih (i + 1)  n hd2 (Nat.lt_of_succ_lt_succ hn)
      simp only [loopK, laws_eqVersionS_b0, laws_eqVersionS_w0, hlt, hz, decide_true, cond_true, and_self, if_true, hy, hw, hnn, Sum.elim_inl, Sum.elim_inr, ih2]

theorem laws_eqVersionS_lz0 {u0} {u1} {u2} (h0 : u0.length < 9223372036854775807) {K : (((List dVersion) × (List dVersion) × Bool × Int) ⊕ ((List dVersion) × (List dVersion) × Bool × Int)) → Option Res}  : loopK laws_eqVersionS_b0 Fuel (u0, u1, u2, (0 : Int)) K = laws_eqVersionS_w0 u0 u1 u2 u0  0 (Sum.elim (fun z => K (.inl (u0, u1, z.1, z.2))) (fun z => K (.inr (u0, u1, u2, z)))) :=
  laws_eqVersionS_lw0 h0 u0 0  Fuel rfl (lwl_fuel h0)

def laws_eqVersionS_t (a0 : (List dVersion)) (a1 : (List dVersion)) (k : Bool → Option Res) : Option Res :=
  bif ((a0.length : Int) != (a1.length : Int)) then
    k false
  else
    laws_eqVersionS_w0 a0 a1 false a0  0 (Sum.elim (fun z18 =>
      k z18.1) (fun _ =>
      k true))

theorem laws_eqVersionS_r {a0 : (List dVersion)} {a1 : (List dVersion)} (h0 : a0.length < 9223372036854775807) {k : Bool → Option Res} : laws_eqVersionS_k a0 a1 k = laws_eqVersionS_t a0 a1 k := by
  rw [laws_eqVersionS_e]
  simp only [laws_eqVersionS_d, laws_eqVersionS_t, (laws_eqVersionS_lz0 h0), Sum.elim_inl, Sum.elim_inr]

def laws_eqRangeS_w0 (u0 : (List dRange)) (u1 : (List dRange)) (u2 : Bool) : List dRange → Nat → (((Bool × Int) ⊕ Int) → Option Res) → Option Res
  | [], i, k =>
    k (.inr (i : Int))
  | y :: l, i, k =>
    if 0 ≤ (i : Int) ∧ (i : Int) < (u1.length : Int) then
      laws_eqRange_k y (rd (Ty.zero tRange) u1 (i : Int)) (fun y1 =>
        bif (!y1) then
          k (.inl (false, (i : Int)))
        else
          laws_eqRangeS_w0 u0 u1 u2 l (i + 1) k)
    else none

theorem laws_eqRangeS_lw0 {u0} {u1} {u2} (h0 : u0.length < 9223372036854775807) {K : (((List dRange) × (List dRange) × Bool × Int) ⊕ ((List dRange) × (List dRange) × Bool × Int)) → Option Res} : ∀ (l : List dRange) (i : Nat)  (n : Nat), u0.drop i = l → l.length < n → loopK laws_eqRangeS_b0 n (u0, u1, u2, (i : Int)) K = laws_eqRangeS_w0 u0 u1 u2 l  i (Sum.elim (fun z => K (.inl (u0, u1, z.1, z.2))) (fun z => K (.inr (u0, u1, u2, z)))) := by
  intro l
  induction l with
  | nil =>
    intro i  n hd hn
    have hge := lwl_nil hd
    cases n with
    | zero => exact absurd hn (Nat.not_lt_zero _)
    | succ n => simp only [loopK, laws_eqRangeS_b0, laws_eqRangeS_w0, hge, decide_false, cond_false, Sum.elim_inr, Sum.elim_inl]
  | cons y l ih =>
    intro i  n hd hn
    obtain ⟨hlt, hz, hd2, hw, hnn⟩ := lwl_cons hd h0
    have hy := lwl_get hd
    cases n with
    | zero => exact absurd hn (Nat.not_lt_zero _)
    | succ n =>
      have ih2 := ih (i + 1)  n hd2 (Nat.lt_of_succ_lt_succ hn)
      simp only [loopK, laws_eqRangeS_b0, laws_eqRangeS_w0, hlt, hz, decide_true, cond_true, and_self, if_true, hy, hw, hnn, Sum.elim_inl, Sum.elim_inr, ih2]

theorem laws_eqRangeS_lz0 {u0} {u1} {u2} (h0 : u0.length < 9223372036854775807) {K : (((List dRange) × (List dRange) × Bool × Int) ⊕ ((List dRange) × (List dRange) × Bool × Int)) → Option Res}  : loopK laws_eqRangeS_b0 Fuel (u0, u1, u2, (0 : Int)) K = laws_eqRangeS_w0 u0 u1 u2 u0  0 (Sum.elim (fun z => K (.inl (u0, u1, z.1, z.2))) (fun z => K (.inr (u0, u1, u2, z)))) :=
  laws_eqRangeS_lw0 h0 u0 0  Fuel rfl (lwl_fuel h0)

def laws_eqRangeS_t (a0 : (List dRange)) (a1 : (List dRange)) (k : Bool → Option Res) : Option Res :=
  bif ((a0.length : Int) != (a1.length : Int)) then
    k false
  else
    laws_eqRangeS_w0 a0 a1 false a0  0 (Sum.elim (fun z18 =>
      k z18.1) (fun _ =>
      k true))

theorem laws_eqRangeS_r {a0 : (List dRange)} {a1 : (List dRange)} (h0 : a0.length < 9223372036854775807) {k : Bool → Option Res} : laws_eqRangeS_k a0 a1 k = laws_eqRangeS_t a0 a1 k := by
  rw [laws_eqRangeS_e]
  simp only [laws_eqRangeS_d, laws_eqRangeS_t, (laws_eqRangeS_lz0 h0), Sum.elim_inl, Sum.elim_inr]

def laws_eqWriteS_w0 (u0 : (List dWrite)) (u1 : (List dWrite)) (u2 : Bool) : List dWrite → Nat → (((Bool × Int) ⊕ Int) → Option Res) → Option Res
  | [], i, k =>
    k (.inr (i : Int))
  | y :: l, i, k =>
    if 0 ≤ (i : Int) ∧ (i : Int) < (u1.length : Int) then
      laws_eqWrite_k y (rd (Ty.zero tWrite) u1 (i : Int)) (fun y1 =>
        bif (!y1) then
          k (.inl (false, (i : Int)))
        else
          laws_eqWriteS_w0 u0 u1 u2 l (i + 1) k)
    else none

theorem laws_eqWriteS_lw0 {u0} {u1} {u2} (h0 : u0.length < 9223372036854775807) {K : (((List dWrite) × (List dWrite) × Bool × Int) ⊕ ((List dWrite) × (List dWrite) × Bool × Int)) → Option Res} : ∀ (l : List dWrite) (i : Nat)  (n : Nat), u0.drop i = l → l.length < n → loopK laws_eqWriteS_b0 n (u0, u1, u2, (i : Int)) K = laws_eqWriteS_w0 u0 u1 u2 l  i (Sum.elim (fun z => K (.inl (u0, u1, z.1, z.2))) (fun z => K (.inr (u0, u1, u2, z)))) := by
  intro l
  induction l with
  | nil =>
    intro i  n hd hn
    have hge := lwl_nil hd
    cases n with
    | zero => exact absurd hn (Nat.not_lt_zero _)
    | succ n => simp only [loopK, laws_eqWriteS_b0, laws_eqWriteS_w0, hge, decide_false, cond_false, Sum.elim_inr, Sum.elim_inl]
  | cons y l ih =>
    intro i  n hd hn
    obtain ⟨hlt, hz, hd2, hw, hnn⟩ := lwl_cons hd h0
    have hy := lwl_get hd
    cases n with
    | zero => exact absurd hn (Nat.not_lt_zero _)
    | succ n =>
      have ih2 := ih (i + 1)  n hd2 (Nat.lt_of_succ_lt_succ hn)
      simp only [loopK, laws_eqWriteS_b0, laws_eqWriteS_w0, hlt, hz, decide_true, cond_true, and_self, if_true, hy, hw, hnn, Sum.elim_inl, Sum.elim_inr, ih2]

theorem laws_eqWriteS_lz0 {u0} {u1} {u2} (h0 : u0.length < 9223372036854775807) {K : (((List dWrite) × (List dWrite) × Bool × Int) ⊕ ((List dWrite) × (List dWrite) × Bool × Int)) → Option Res}  : loopK laws_eqWriteS_b0 Fuel (u0, u1, u2, (0 : Int)) K = laws_eqWriteS_w0 u0 u1 u2 u0  0 (Sum.elim (fun z => K (.inl (u0, u1, z.1, z.2))) (fun z => K (.inr (u0, u1, u2, z)))) :=
  laws_eqWriteS_lw0 h0 u0 0  Fuel rfl (lwl_fuel h0)

def laws_eqWriteS_t (a0 : (List dWrite)) (a1 : (List dWrite)) (k : Bool → Option Res) : Option Res :=
  bif ((a0.length : Int) != (a1.length : Int)) then
    k false
  else
    laws_eqWriteS_w0 a0 a1 false a0  0 (Sum.elim (fun z18 =>
      k z18.1) (fun _ =>
      k true))

theorem laws_eqWriteS_r {a0 : (List dWrite)} {a1 : (List dWrite)} (h0 : a0.length < 9223372036854775807) {k : Bool → Option Res} : laws_eqWriteS_k a0 a1 k = laws_eqWriteS_t a0 a1 k := by
  rw [laws_eqWriteS_e]
  simp only [laws_eqWriteS_d, laws_eqWriteS_t, (laws_eqWriteS_lz0 h0), Sum.elim_inl, Sum.elim_inr]

def laws_eqTxnS_w0 (u0 : (List dTxn)) (u1 : (List dTxn)) (u2 : Bool) : List dTxn → Nat → (((Bool × Int) ⊕ Int) → Option Res) → Option Res
  | [], i, k =>
    k (.inr (i : Int))
  | y :: l, i, k =>
    if 0 ≤ (i : Int) ∧ (i : Int) < (u1.length : Int) then
      laws_eqTxn_k y (rd (Ty.zero tTxn) u1 (i : Int)) (fun y1 =>
        bif (!y1) then
          k (.inl (false, (i : Int)))
        else
          laws_eqTxnS_w0 u0 u1 u2 l (i + 1) k)
    else none

theorem laws_eqTxnS_lw0 {u0} {u1} {u2} (h0 : u0.length < 9223372036854775807) {K : (((List dTxn) × (List dTxn) × Bool × Int) ⊕ ((List dTxn) × (List dTxn) × Bool × Int)) → Option Res} : ∀ (l : List dTxn) (i : Nat)  (n : Nat), u0.drop i = l → l.length < n → loopK laws_eqTxnS_b0 n (u0, u1, u2, (i : Int)) K = laws_eqTxnS_w0 u0 u1 u2 l  i (Sum.elim (fun z => K (.inl (u0, u1, z.1, z.2))) (fun z => K (.inr (u0, u1, u2, z)))) := by
  intro l
  induction l with
  | nil =>
    intro i  n hd hn
    have hge := lwl_nil hd
    cases n with
    | zero => exact absurd hn (Nat.not_lt_zero _)
    | succ n => simp only [loopK, laws_eqTxnS_b0, laws_eqTxnS_w0, hge, decide_false, cond_false, Sum.elim_inr, Sum.elim_inl]
  | cons y l ih =>
    intro i  n hd hn
    obtain ⟨hlt, hz, hd2, hw, hnn⟩ := lwl_cons hd h0
    have hy := lwl_get hd
    cases n with
    | zero => exact absurd hn (Nat.not_lt_zero _)
    | succ n =>
      have ih2 := ih (i + 1)  n hd2 (Nat.lt_of_succ_lt_succ hn)
      simp only [loopK, laws_eqTxnS_b0, laws_eqTxnS_w0, hlt, hz, decide_true, cond_true, and_self, if_true, hy, hw, hnn, Sum.elim_inl, Sum.elim_inr, ih2]

theorem laws_eqTxnS_lz0 {u0} {u1} {u2} (h0 : u0.length < 9223372036854775807) {K : (((List dTxn) × (List dTxn) × Bool × Int) ⊕ ((List dTxn) × (List dTxn) × Bool × Int)) → Option Res}  : loopK laws_eqTxnS_b0 Fuel (u0, u1, u2, (0 : Int)) K = laws_eqTxnS_w0 u0 u1 u2 u0  0 (Sum.elim (fun z => K (.inl (u0, u1, z.1, z.2))) (fun z => K (.inr (u0, u1, u2, z)))) :=
  laws_eqTxnS_lw0 h0 u0 0  Fuel rfl (lwl_fuel h0)

def laws_eqTxnS_t (a0 : (List dTxn)) (a1 : (List dTxn)) (k : Bool → Option Res) : Option Res :=
  bif ((a0.length : Int) != (a1.length : Int)) then
    k false
  else
    laws_eqTxnS_w0 a0 a1 false a0  0 (Sum.elim (fun z18 =>
      k z18.1) (fun _ =>
      k true))

theorem laws_eqTxnS_r {a0 : (List dTxn)} {a1 : (List dTxn)} (h0 : a0.length < 9223372036854775807) {k : Bool → Option Res} : laws_eqTxnS_k a0 a1 k = laws_eqTxnS_t a0 a1 k := by
  rw [laws_eqTxnS_e]
  simp only [laws_eqTxnS_d, laws_eqTxnS_t, (laws_eqTxnS_lz0 h0), Sum.elim_inl, Sum.elim_inr]

def laws_eqPutS_w0 (u0 : (List dPut)) (u1 : (List dPut)) (u2 : Bool) : List dPut → Nat → (((Bool × Int) ⊕ Int) → Option Res) → Option Res
  | [], i, k =>
    k (.inr (i : Int))
  | y :: l, i, k =>
    if 0 ≤ (i : Int) ∧ (i : Int) < (u1.length : Int) then
      laws_eqPut_k y (rd (Ty.zero tPut) u1 (i : Int)) (fun y1 =>
        bif (!y1) then
          k (.inl (false, (i : Int)))
        else
          laws_eqPutS_w0 u0 u1 u2 l (i + 1) k)
    else none

theorem laws_eqPutS_lw0 {u0} {u1} {u2} (h0 : u0.length < 9223372036854775807) {K : (((List dPut) × (List dPut) × Bool × Int) ⊕ ((List dPut) × (List dPut) × Bool × Int)) → Option Res} : ∀ (l : List dPut) (i : Nat)  (n : Nat), u0.drop i = l → l.length < n → loopK laws_eqPutS_b0 n (u0, u1, u2, (i : Int)) K = laws_eqPutS_w0 u0 u1 u2 l  i (Sum.elim (fun z => K (.inl (u0, u1, z.1, z.2))) (fun z => K (.inr (u0, u1, u2, z)))) := by
  intro l
  induction l with
  | nil =>
    intro i  n hd hn
    have hge := lwl_nil hd
    cases n with
    | zero => exact absurd hn (Nat.not_lt_zero _)
    | succ n => simp only [loopK, laws_eqPutS_b0, laws_eqPutS_w0, hge, decide_false, cond_false, Sum.elim_inr, Sum.elim_inl]
  | cons y l ih =>
    intro i  n hd hn
    obtain ⟨hlt, hz, hd2, hw, hnn⟩ := lwl_cons hd h0
    have hy := lwl_get hd
    cases n with
    | zero => exact absurd hn (Nat.not_lt_zero _)
    | succ n =>
      have ih2 := ih (i + 1)  n hd2 (Nat.lt_of_succ_lt_succ hn)
      simp only [loopK, laws_eqPutS_b0, laws_eqPutS_w0, hlt, hz, decide_true, cond_true, and_self, if_true, hy, hw, hnn, Sum.elim_inl, Sum.elim_inr, ih2]

theorem laws_eqPutS_lz0 {u0} {u1} {u2} (h0 : u0.length < 9223372036854775807) {K : (((List dPut) × (List dPut) × Bool × Int) ⊕ ((List dPut) × (List dPut) × Bool × Int)) → Option Res}  : loopK laws_eqPutS_b0 Fuel (u0, u1, u2, (0 : Int)) K = laws_eqPutS_w0 u0 u1 u2 u0  0 (Sum.elim (fun z => K (.inl (u0, u1, z.1, z.2))) (fun z => K (.inr (u0, u1, u2, z)))) :=
  laws_eqPutS_lw0 h0 u0 0  Fuel rfl (lwl_fuel h0)

def laws_eqPutS_t (a0 : (List dPut)) (a1 : (List dPut)) (k : Bool → Option Res) : Option Res :=
  bif ((a0.length : Int) != (a1.length : Int)) then
    k false
  else
    laws_eqPutS_w0 a0 a1 false a0  0 (Sum.elim (fun z18 =>
      k z18.1) (fun _ =>
      k true))

theorem laws_eqPutS_r {a0 : (List dPut)} {a1 : (List dPut)} (h0 : a0.length < 9223372036854775807) {k : Bool → Option Res} : laws_eqPutS_k a0 a1 k = laws_eqPutS_t a0 a1 k := by
  rw [laws_eqPutS_e]
  simp only [laws_eqPutS_d, laws_eqPutS_t, (laws_eqPutS_lz0 h0), Sum.elim_inl, Sum.elim_inr]

def laws_heldStringS_w0 (u0 : (List ByteArray)) (u2 : Int) : List ByteArray → Int → Nat → (((Int × Int × Int) ⊕ (Int × Int)) → Option Res) → Option Res
  | [], s1, i, k =>
    k (.inr (s1, (i : Int)))
  | y :: l, s1, i, k =>
    laws_markText_k s1 (fun y1 =>
      bif (!(strEq y y1)) then
        k (.inl (s1, (-1 : Int), (i : Int)))
      else
        laws_heldStringS_w0 u0 u2 l (IntKind.wrap .i64 (s1 + (1 : Int))) (i + 1) k)

theorem laws_heldStringS_lw0 {u0} {u2} (h0 : u0.length < 9223372036854775807) {K : (((List ByteArray) × Int × Int × Int) ⊕ ((List ByteArray) × Int × Int × Int)) → Option Res} : ∀ (l : List ByteArray) (i : Nat) (s1 : Int) (n : Nat), u0.drop i = l → l.length < n → loopK laws_heldStringS_b0 n (u0, s1, u2, (i : Int)) K = laws_heldStringS_w0 u0 u2 l s1 i (Sum.elim (fun z => K (.inl (u0, z.1, z.2.1, z.2.2))) (fun z => K (.inr (u0, z.1, u2, z.2)))) := by
  intro l
  induction l with
  | nil =>
    intro i s1 n hd hn
    have hge := lwl_nil hd
    cases n with
    | zero => exact absurd hn (Nat.not_lt_zero _)
    | succ n => simp only [loopK, laws_heldStringS_b0, laws_heldStringS_w0, hge, decide_false, cond_false, Sum.elim_inr, Sum.elim_inl]
  | cons y l ih =>
    intro i s1 n hd hn
    obtain ⟨hlt, hz, hd2, hw, hnn⟩ := lwl_cons hd h0
    have hy := lwl_get hd
    cases n with
    | zero => exact absurd hn (Nat.not_lt_zero _)
    | succ n =>
      have ih2 := fun (s1 : Int) => ih (i + 1) s1 n hd2 (Nat.lt_of_succ_lt_succ hn)
      simp only [loopK, laws_heldStringS_b0, laws_heldStringS_w0, hlt, hz, decide_true, cond_true, and_self, if_true, hy, hw, hnn, Sum.elim_inl, Sum.elim_inr, ih2]

theorem laws_heldStringS_lz0 {u0} {u2} (h0 : u0.length < 9223372036854775807) {K : (((List ByteArray) × Int × Int × Int) ⊕ ((List ByteArray) × Int × Int × Int)) → Option Res} {s1 : Int} : loopK laws_heldStringS_b0 Fuel (u0, s1, u2, (0 : Int)) K = laws_heldStringS_w0 u0 u2 u0 s1 0 (Sum.elim (fun z => K (.inl (u0, z.1, z.2.1, z.2.2))) (fun z => K (.inr (u0, z.1, u2, z.2)))) :=
  laws_heldStringS_lw0 h0 u0 0 s1 Fuel rfl (lwl_fuel h0)

def laws_heldStringS_t (a0 : (List ByteArray)) (a1 : Int) (k : Int → Option Res) : Option Res :=
  laws_heldStringS_w0 a0 (0 : Int) a0 a1 0 (Sum.elim (fun z18 =>
    k z18.2.1) (fun z19 =>
    k z19.1))

theorem laws_heldStringS_r {a0 : (List ByteArray)} {a1 : Int} (h0 : a0.length < 9223372036854775807) {k : Int → Option Res} : laws_heldStringS_k a0 a1 k = laws_heldStringS_t a0 a1 k := by
  rw [laws_heldStringS_e]
  simp only [laws_heldStringS_d, laws_heldStringS_t, (laws_heldStringS_lz0 h0), Sum.elim_inl, Sum.elim_inr]

def laws_FnExactInDoubt_wj5000016 (u0 : Bool) (u1 : (List dVersion)) (u2 : (List dTxn)) (u3 : (List dTxn)) (u4 : Int) (u5 : Int) (u6 : (List dTxn)) (u7 : (List ByteArray)) (u8 : (List dPut)) (u9 : (List ByteArray)) (u10 : (List ByteArray)) (k : (Bool × (List ByteArray)) → Option Res) : Option Res :=
    laws_markStringS_vo_k (1 : Int) u10 (fun y1 =>
      laws_heldStringS_k y1.2 (1 : Int) (fun y2 =>
        bif (decide (y2 < (0 : Int))) then
          k (false, y1.2)
        else
          bif (y2 != y1.1) then
            k (false, y1.2)
          else
            laws_toStore_k (((u1, (u2, (u3, (u4, u5)))), u6), (u7, u8)) (fun y3 =>
              impl_InDoubt_k (((y3.2.2.1, (y3.2.2.2.1, (y3.2.2.2.2.1, (y3.1, y3.2.1)))), y3.2.2.2.2.2.1), y3.2.2.2.2.2.2) (fun y4 =>
                laws_eqStringS_k y4 u9 (fun y5 =>
                  bif (!y5) then
                    k (false, y1.2)
                  else
                    laws_heldStringS_k y1.2 (1 : Int) (fun y6 =>
                      bif (decide (y6 < (0 : Int))) then
                        k (false, y1.2)
                      else
                        bif (y6 != y1.1) then
                          k (false, y1.2)
                        else
                          k (true, y1.2)))))))

theorem laws_FnExactInDoubt_wz5000016 {u0} {u1} {u2} {u3} {u4} {u5} {u6} {u7} {u8} {u9} {u10}  {K : (Bool × (List dVersion) × (List dTxn) × (List dTxn) × Int × Int × (List dTxn) × (List ByteArray) × (List dPut) × (List ByteArray) × (List ByteArray)) → Option Res} : laws_FnExactInDoubt_j5000016 (u0, u1, u2, u3, u4, u5, u6, u7, u8, u9, u10) K = laws_FnExactInDoubt_wj5000016 u0 u1 u2 u3 u4 u5 u6 u7 u8 u9 u10 (fun z => K (z.1, u1, u2, u3, u4, u5, u6, u7, u8, u9, z.2)) := by
  simp only [laws_FnExactInDoubt_j5000016, laws_FnExactInDoubt_wj5000016, Sum.elim_inl, Sum.elim_inr]

def laws_FnExactInDoubt_t (a0 : dStore) (k : Bool → Option Res) : Option Res :=
  laws_szStore_k a0 (1048576 : Int) (fun y18 =>
    bif (decide (y18 < (0 : Int))) then
      k true
    else
      laws_toStore_k a0 (fun y19 =>
        spec_InDoubt_k (((y19.2.2.1, (y19.2.2.2.1, (y19.2.2.2.2.1, (y19.1, y19.2.1)))), y19.2.2.2.2.2.1), y19.2.2.2.2.2.2) (fun y20 =>
          laws_toStore_k a0 (fun y21 =>
            impl_InDoubt_k (((y21.2.2.1, (y21.2.2.2.1, (y21.2.2.2.2.1, (y21.1, y21.2.1)))), y21.2.2.2.2.2.1), y21.2.2.2.2.2.2) (fun y22 =>
              laws_eqStringS_k y22 y20 (fun y23 =>
                bif (!y23) then
                  k false
                else
                  laws_toStore_k a0 (fun y24 =>
                    laws_eqStore_k (((y21.2.2.1, (y21.2.2.2.1, (y21.2.2.2.2.1, (y21.1, y21.2.1)))), y21.2.2.2.2.2.1), y21.2.2.2.2.2.2) (((y24.2.2.1, (y24.2.2.2.1, (y24.2.2.2.2.1, (y24.1, y24.2.1)))), y24.2.2.2.2.2.1), y24.2.2.2.2.2.2) (fun y25 =>
                      bif (!y25) then
                        k false
                      else
                        laws_markStore_vAodddoo_k y21.1 y21.2.1 (1 : Int) y21.2.2.1 y21.2.2.2.1 y21.2.2.2.2.1 y21.2.2.2.2.2.1 y21.2.2.2.2.2.2.1 y21.2.2.2.2.2.2.2 (fun y26 =>
                          bif (decide (y26.1 < (0 : Int))) then
                            k false
                          else
                            laws_eqStringS_k y22 y20 (fun y27 =>
                              bif (!y27) then
                                k false
                              else
                                laws_FnExactInDoubt_wj5000016 false a0.1.1.1 a0.1.1.2.1 a0.1.1.2.2.1 a0.1.1.2.2.2.1 a0.1.1.2.2.2.2 a0.1.2 a0.2.1 a0.2.2 y20 y22 (fun z28 =>
                                  k z28.1)))))))))))

theorem laws_FnExactInDoubt_r {a0 : dStore}  {k : Bool → Option Res} : laws_FnExactInDoubt_k a0 k = laws_FnExactInDoubt_t a0 k := by
  rw [laws_FnExactInDoubt_e]
  simp only [laws_FnExactInDoubt_d, laws_FnExactInDoubt_t, laws_FnExactInDoubt_wz5000016, Sum.elim_inl, Sum.elim_inr]

end

end Go.VE
