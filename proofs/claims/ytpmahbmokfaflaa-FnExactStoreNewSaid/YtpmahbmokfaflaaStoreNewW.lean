/- Loops told as recursions over what is left; written by gen.py. -/

import Derived.Test.YtpmahbmokfaflaaStoreNewN

import Derived.Test.YtpmahbmokfaflaaP1

namespace Go.VE

noncomputable section

set_option linter.unusedVariables false
set_option linter.unusedSimpArgs false
set_option maxRecDepth 100000


def laws_eqVersionS_w0 (u0 : (List dVersion)) (u1 : (List dVersion)) (u2 : Bool) : List dVersion → Nat → (((Bool × Int) ⊕ Int) → Option Res) → Option Res
  | [], i, k =>
    k (.inr (i : Int))
  | y :: l, i, k =>
    if 0 ≤ (i : Int) ∧ (i : Int) < (u1.length : Int) then
      laws_eqVersion_k y (rd (Ty.zero tVersion) u1 (i : Int)) (fun y1 =>
        bif (!y1) then
          k (.inl (false, (i : Int)))
        else
          laws_eqVersionS_w0 u0 u1 u2 l (i + 1) k)
    else none

theorem laws_eqVersionS_lw0 {u0} {u1} {u2} (h0 : u0.length < 9223372036854775807) {K : (((List dVersion) × (List dVersion) × Bool × Int) ⊕ ((List dVersion) × (List dVersion) × Bool × Int)) → Option Res} : ∀ (l : List dVersion) (i : Nat)  (n : Nat), u0.drop i = l → l.length < n → loopK laws_eqVersionS_b0 n (u0, u1, u2, (i : Int)) K = laws_eqVersionS_w0 u0 u1 u2 l  i (Sum.elim (fun z => K (.inl (u0, u1, z.1, z.2))) (fun z => K (.inr (u0, u1, u2, z)))) := by
  intro l
  induction l with
  | nil =>
    intro i  n hd hn
    have hge := lwl_nil hd
    cases n with
    | zero => exact absurd hn (Nat.not_lt_zero _)
    | succ n => simp only [loopK, laws_eqVersionS_b0, laws_eqVersionS_w0, hge, decide_false, cond_false, Sum.elim_inr, Sum.elim_inl]
  | cons y l ih =>
    intro i  n hd hn
    obtain ⟨hlt, hz, hd2, hw, hnn⟩ := lwl_cons hd h0
    have hy := lwl_get hd
    cases n with
    | zero => exact absurd hn (Nat.not_lt_zero _)
    | succ n =>
      have ih2 := ih (i + 1)  n hd2 (Nat.lt_of_succ_lt_succ hn)
      simp only [loopK, laws_eqVersionS_b0, laws_eqVersionS_w0, hlt, hz, decide_true, cond_true, and_self, if_true, hy, hw, hnn, Sum.elim_inl, Sum.elim_inr, ih2]

theorem laws_eqVersionS_lz0 {u0} {u1} {u2} (h0 : u0.length < 9223372036854775807) {K : (((List dVersion) × (List dVersion) × Bool × Int) ⊕ ((List dVersion) × (List dVersion) × Bool × Int)) → Option Res}  : loopK laws_eqVersionS_b0 Fuel (u0, u1, u2, (0 : Int)) K = laws_eqVersionS_w0 u0 u1 u2 u0  0 (Sum.elim (fun z => K (.inl (u0, u1, z.1, z.2))) (fun z => K (.inr (u0, u1, u2, z)))) :=
  laws_eqVersionS_lw0 h0 u0 0  Fuel rfl (lwl_fuel h0)

def laws_eqVersionS_t (a0 : (List dVersion)) (a1 : (List dVersion)) (k : Bool → Option Res) : Option Res :=
  bif ((a0.length : Int) != (a1.length : Int)) then
    k false
  else
    laws_eqVersionS_w0 a0 a1 false a0  0 (Sum.elim (fun z9 =>
      k z9.1) (fun _ =>
      k true))

theorem laws_eqVersionS_r {a0 : (List dVersion)} {a1 : (List dVersion)} (h0 : a0.length < 9223372036854775807) {k : Bool → Option Res} : laws_eqVersionS_k a0 a1 k = laws_eqVersionS_t a0 a1 k := by
  rw [laws_eqVersionS_e]
  simp only [laws_eqVersionS_d, laws_eqVersionS_t, (laws_eqVersionS_lz0 h0), Sum.elim_inl, Sum.elim_inr]

def laws_eqRangeS_w0 (u0 : (List dRange)) (u1 : (List dRange)) (u2 : Bool) : List dRange → Nat → (((Bool × Int) ⊕ Int) → Option Res) → Option Res
  | [], i, k =>
    k (.inr (i : Int))
  | y :: l, i, k =>
    if 0 ≤ (i : Int) ∧ (i : Int) < (u1.length : Int) then
      laws_eqRange_k y (rd (Ty.zero tRange) u1 (i : Int)) (fun y1 =>
        bif (!y1) then
          k (.inl (false, (i : Int)))
        else
          laws_eqRangeS_w0 u0 u1 u2 l (i + 1) k)
    else none

theorem laws_eqRangeS_lw0 {u0} {u1} {u2} (h0 : u0.length < 9223372036854775807) {K : (((List dRange) × (List dRange) × Bool × Int) ⊕ ((List dRange) × (List dRange) × Bool × Int)) → Option Res} : ∀ (l : List dRange) (i : Nat)  (n : Nat), u0.drop i = l → l.length < n → loopK laws_eqRangeS_b0 n (u0, u1, u2, (i : Int)) K = laws_eqRangeS_w0 u0 u1 u2 l  i (Sum.elim (fun z => K (.inl (u0, u1, z.1, z.2))) (fun z => K (.inr (u0, u1, u2, z)))) := by
  intro l
  induction l with
  | nil =>
    intro i  n hd hn
    have hge := lwl_nil hd
    cases n with
    | zero => exact absurd hn (Nat.not_lt_zero _)
    | succ n => simp only [loopK, laws_eqRangeS_b0, laws_eqRangeS_w0, hge, decide_false, cond_false, Sum.elim_inr, Sum.elim_inl]
  | cons y l ih =>
    intro i  n hd hn
    obtain ⟨hlt, hz, hd2, hw, hnn⟩ := lwl_cons hd h0
    have hy := lwl_get hd
    cases n with
    | zero => exact absurd hn (Nat.not_lt_zero _)
    | succ n =>
      have ih2 := ih (i + 1)  n hd2 (Nat.lt_of_succ_lt_succ hn)
      simp only [loopK, laws_eqRangeS_b0, laws_eqRangeS_w0, hlt, hz, decide_true, cond_true, and_self, if_true, hy, hw, hnn, Sum.elim_inl, Sum.elim_inr, ih2]

theorem laws_eqRangeS_lz0 {u0} {u1} {u2} (h0 : u0.length < 9223372036854775807) {K : (((List dRange) × (List dRange) × Bool × Int) ⊕ ((List dRange) × (List dRange) × Bool × Int)) → Option Res}  : loopK laws_eqRangeS_b0 Fuel (u0, u1, u2, (0 : Int)) K = laws_eqRangeS_w0 u0 u1 u2 u0  0 (Sum.elim (fun z => K (.inl (u0, u1, z.1, z.2))) (fun z => K (.inr (u0, u1, u2, z)))) :=
  laws_eqRangeS_lw0 h0 u0 0  Fuel rfl (lwl_fuel h0)

def laws_eqRangeS_t (a0 : (List dRange)) (a1 : (List dRange)) (k : Bool → Option Res) : Option Res :=
  bif ((a0.length : Int) != (a1.length : Int)) then
    k false
  else
    laws_eqRangeS_w0 a0 a1 false a0  0 (Sum.elim (fun z9 =>
      k z9.1) (fun _ =>
      k true))

theorem laws_eqRangeS_r {a0 : (List dRange)} {a1 : (List dRange)} (h0 : a0.length < 9223372036854775807) {k : Bool → Option Res} : laws_eqRangeS_k a0 a1 k = laws_eqRangeS_t a0 a1 k := by
  rw [laws_eqRangeS_e]
  simp only [laws_eqRangeS_d, laws_eqRangeS_t, (laws_eqRangeS_lz0 h0), Sum.elim_inl, Sum.elim_inr]

def laws_eqWriteS_w0 (u0 : (List dWrite)) (u1 : (List dWrite)) (u2 : Bool) : List dWrite → Nat → (((Bool × Int) ⊕ Int) → Option Res) → Option Res
  | [], i, k =>
    k (.inr (i : Int))
  | y :: l, i, k =>
    if 0 ≤ (i : Int) ∧ (i : Int) < (u1.length : Int) then
      laws_eqWrite_k y (rd (Ty.zero tWrite) u1 (i : Int)) (fun y1 =>
        bif (!y1) then
          k (.inl (false, (i : Int)))
        else
          laws_eqWriteS_w0 u0 u1 u2 l (i + 1) k)
    else none

theorem laws_eqWriteS_lw0 {u0} {u1} {u2} (h0 : u0.length < 9223372036854775807) {K : (((List dWrite) × (List dWrite) × Bool × Int) ⊕ ((List dWrite) × (List dWrite) × Bool × Int)) → Option Res} : ∀ (l : List dWrite) (i : Nat)  (n : Nat), u0.drop i = l → l.length < n → loopK laws_eqWriteS_b0 n (u0, u1, u2, (i : Int)) K = laws_eqWriteS_w0 u0 u1 u2 l  i (Sum.elim (fun z => K (.inl (u0, u1, z.1, z.2))) (fun z => K (.inr (u0, u1, u2, z)))) := by
  intro l
  induction l with
  | nil =>
    intro i  n hd hn
    have hge := lwl_nil hd
    cases n with
    | zero => exact absurd hn (Nat.not_lt_zero _)
    | succ n => simp only [loopK, laws_eqWriteS_b0, laws_eqWriteS_w0, hge, decide_false, cond_false, Sum.elim_inr, Sum.elim_inl]
  | cons y l ih =>
    intro i  n hd hn
    obtain ⟨hlt, hz, hd2, hw, hnn⟩ := lwl_cons hd h0
    have hy := lwl_get hd
    cases n with
    | zero => exact absurd hn (Nat.not_lt_zero _)
    | succ n =>
      have ih2 := ih (i + 1)  n hd2 (Nat.lt_of_succ_lt_succ hn)
      simp only [loopK, laws_eqWriteS_b0, laws_eqWriteS_w0, hlt, hz, decide_true, cond_true, and_self, if_true, hy, hw, hnn, Sum.elim_inl, Sum.elim_inr, ih2]

theorem laws_eqWriteS_lz0 {u0} {u1} {u2} (h0 : u0.length < 9223372036854775807) {K : (((List dWrite) × (List dWrite) × Bool × Int) ⊕ ((List dWrite) × (List dWrite) × Bool × Int)) → Option Res}  : loopK laws_eqWriteS_b0 Fuel (u0, u1, u2, (0 : Int)) K = laws_eqWriteS_w0 u0 u1 u2 u0  0 (Sum.elim (fun z => K (.inl (u0, u1, z.1, z.2))) (fun z => K (.inr (u0, u1, u2, z)))) :=
  laws_eqWriteS_lw0 h0 u0 0  Fuel rfl (lwl_fuel h0)

def laws_eqWriteS_t (a0 : (List dWrite)) (a1 : (List dWrite)) (k : Bool → Option Res) : Option Res :=
  bif ((a0.length : Int) != (a1.length : Int)) then
    k false
  else
    laws_eqWriteS_w0 a0 a1 false a0  0 (Sum.elim (fun z9 =>
      k z9.1) (fun _ =>
      k true))

theorem laws_eqWriteS_r {a0 : (List dWrite)} {a1 : (List dWrite)} (h0 : a0.length < 9223372036854775807) {k : Bool → Option Res} : laws_eqWriteS_k a0 a1 k = laws_eqWriteS_t a0 a1 k := by
  rw [laws_eqWriteS_e]
  simp only [laws_eqWriteS_d, laws_eqWriteS_t, (laws_eqWriteS_lz0 h0), Sum.elim_inl, Sum.elim_inr]

def laws_eqTxnS_w0 (u0 : (List dTxn)) (u1 : (List dTxn)) (u2 : Bool) : List dTxn → Nat → (((Bool × Int) ⊕ Int) → Option Res) → Option Res
  | [], i, k =>
    k (.inr (i : Int))
  | y :: l, i, k =>
    if 0 ≤ (i : Int) ∧ (i : Int) < (u1.length : Int) then
      laws_eqTxn_k y (rd (Ty.zero tTxn) u1 (i : Int)) (fun y1 =>
        bif (!y1) then
          k (.inl (false, (i : Int)))
        else
          laws_eqTxnS_w0 u0 u1 u2 l (i + 1) k)
    else none

theorem laws_eqTxnS_lw0 {u0} {u1} {u2} (h0 : u0.length < 9223372036854775807) {K : (((List dTxn) × (List dTxn) × Bool × Int) ⊕ ((List dTxn) × (List dTxn) × Bool × Int)) → Option Res} : ∀ (l : List dTxn) (i : Nat)  (n : Nat), u0.drop i = l → l.length < n → loopK laws_eqTxnS_b0 n (u0, u1, u2, (i : Int)) K = laws_eqTxnS_w0 u0 u1 u2 l  i (Sum.elim (fun z => K (.inl (u0, u1, z.1, z.2))) (fun z => K (.inr (u0, u1, u2, z)))) := by
  intro l
  induction l with
  | nil =>
    intro i  n hd hn
    have hge := lwl_nil hd
    cases n with
    | zero => exact absurd hn (Nat.not_lt_zero _)
    | succ n => simp only [loopK, laws_eqTxnS_b0, laws_eqTxnS_w0, hge, decide_false, cond_false, Sum.elim_inr, Sum.elim_inl]
  | cons y l ih =>
    intro i  n hd hn
    obtain ⟨hlt, hz, hd2, hw, hnn⟩ := lwl_cons hd h0
    have hy := lwl_get hd
    cases n with
    | zero => exact absurd hn (Nat.not_lt_zero _)
    | succ n =>
      have ih2 := ih (i + 1)  n hd2 (Nat.lt_of_succ_lt_succ hn)
      simp only [loopK, laws_eqTxnS_b0, laws_eqTxnS_w0, hlt, hz, decide_true, cond_true, and_self, if_true, hy, hw, hnn, Sum.elim_inl, Sum.elim_inr, ih2]

theorem laws_eqTxnS_lz0 {u0} {u1} {u2} (h0 : u0.length < 9223372036854775807) {K : (((List dTxn) × (List dTxn) × Bool × Int) ⊕ ((List dTxn) × (List dTxn) × Bool × Int)) → Option Res}  : loopK laws_eqTxnS_b0 Fuel (u0, u1, u2, (0 : Int)) K = laws_eqTxnS_w0 u0 u1 u2 u0  0 (Sum.elim (fun z => K (.inl (u0, u1, z.1, z.2))) (fun z => K (.inr (u0, u1, u2, z)))) :=
  laws_eqTxnS_lw0 h0 u0 0  Fuel rfl (lwl_fuel h0)

def laws_eqTxnS_t (a0 : (List dTxn)) (a1 : (List dTxn)) (k : Bool → Option Res) : Option Res :=
  bif ((a0.length : Int) != (a1.length : Int)) then
    k false
  else
    laws_eqTxnS_w0 a0 a1 false a0  0 (Sum.elim (fun z9 =>
      k z9.1) (fun _ =>
      k true))

theorem laws_eqTxnS_r {a0 : (List dTxn)} {a1 : (List dTxn)} (h0 : a0.length < 9223372036854775807) {k : Bool → Option Res} : laws_eqTxnS_k a0 a1 k = laws_eqTxnS_t a0 a1 k := by
  rw [laws_eqTxnS_e]
  simp only [laws_eqTxnS_d, laws_eqTxnS_t, (laws_eqTxnS_lz0 h0), Sum.elim_inl, Sum.elim_inr]

def laws_eqStringS_w0 (u0 : (List ByteArray)) (u1 : (List ByteArray)) (u2 : Bool) : List ByteArray → Nat → (((Bool × Int) ⊕ Int) → Option Res) → Option Res
  | [], i, k =>
    k (.inr (i : Int))
  | y :: l, i, k =>
    if 0 ≤ (i : Int) ∧ (i : Int) < (u1.length : Int) then
      bif (!(strEq y (rd (Ty.zero .str) u1 (i : Int)))) then
        k (.inl (false, (i : Int)))
      else
        laws_eqStringS_w0 u0 u1 u2 l (i + 1) k
    else none

theorem laws_eqStringS_lw0 {u0} {u1} {u2} (h0 : u0.length < 9223372036854775807) {K : (((List ByteArray) × (List ByteArray) × Bool × Int) ⊕ ((List ByteArray) × (List ByteArray) × Bool × Int)) → Option Res} : ∀ (l : List ByteArray) (i : Nat)  (n : Nat), u0.drop i = l → l.length < n → loopK laws_eqStringS_b0 n (u0, u1, u2, (i : Int)) K = laws_eqStringS_w0 u0 u1 u2 l  i (Sum.elim (fun z => K (.inl (u0, u1, z.1, z.2))) (fun z => K (.inr (u0, u1, u2, z)))) := by
  intro l
  induction l with
  | nil =>
    intro i  n hd hn
    have hge := lwl_nil hd
    cases n with
    | zero => exact absurd hn (Nat.not_lt_zero _)
    | succ n => simp only [loopK, laws_eqStringS_b0, laws_eqStringS_w0, hge, decide_false, cond_false, Sum.elim_inr, Sum.elim_inl]
  | cons y l ih =>
    intro i  n hd hn
    obtain ⟨hlt, hz, hd2, hw, hnn⟩ := lwl_cons hd h0
    have hy := lwl_get hd
    cases n with
    | zero => exact absurd hn (Nat.not_lt_zero _)
    | succ n =>
      have ih2 := ih (i + 1)  n hd2 (Nat.lt_of_succ_lt_succ hn)
      simp only [loopK, laws_eqStringS_b0, laws_eqStringS_w0, hlt, hz, decide_true, cond_true, and_self, if_true, hy, hw, hnn, Sum.elim_inl, Sum.elim_inr, ih2]

theorem laws_eqStringS_lz0 {u0} {u1} {u2} (h0 : u0.length < 9223372036854775807) {K : (((List ByteArray) × (List ByteArray) × Bool × Int) ⊕ ((List ByteArray) × (List ByteArray) × Bool × Int)) → Option Res}  : loopK laws_eqStringS_b0 Fuel (u0, u1, u2, (0 : Int)) K = laws_eqStringS_w0 u0 u1 u2 u0  0 (Sum.elim (fun z => K (.inl (u0, u1, z.1, z.2))) (fun z => K (.inr (u0, u1, u2, z)))) :=
  laws_eqStringS_lw0 h0 u0 0  Fuel rfl (lwl_fuel h0)

def laws_eqStringS_t (a0 : (List ByteArray)) (a1 : (List ByteArray)) (k : Bool → Option Res) : Option Res :=
  bif ((a0.length : Int) != (a1.length : Int)) then
    k false
  else
    laws_eqStringS_w0 a0 a1 false a0  0 (Sum.elim (fun z9 =>
      k z9.1) (fun _ =>
      k true))

theorem laws_eqStringS_r {a0 : (List ByteArray)} {a1 : (List ByteArray)} (h0 : a0.length < 9223372036854775807) {k : Bool → Option Res} : laws_eqStringS_k a0 a1 k = laws_eqStringS_t a0 a1 k := by
  rw [laws_eqStringS_e]
  simp only [laws_eqStringS_d, laws_eqStringS_t, (laws_eqStringS_lz0 h0), Sum.elim_inl, Sum.elim_inr]

def laws_eqPutS_w0 (u0 : (List dPut)) (u1 : (List dPut)) (u2 : Bool) : List dPut → Nat → (((Bool × Int) ⊕ Int) → Option Res) → Option Res
  | [], i, k =>
    k (.inr (i : Int))
  | y :: l, i, k =>
    if 0 ≤ (i : Int) ∧ (i : Int) < (u1.length : Int) then
      laws_eqPut_k y (rd (Ty.zero tPut) u1 (i : Int)) (fun y1 =>
        bif (!y1) then
          k (.inl (false, (i : Int)))
        else
          laws_eqPutS_w0 u0 u1 u2 l (i + 1) k)
    else none

theorem laws_eqPutS_lw0 {u0} {u1} {u2} (h0 : u0.length < 9223372036854775807) {K : (((List dPut) × (List dPut) × Bool × Int) ⊕ ((List dPut) × (List dPut) × Bool × Int)) → Option Res} : ∀ (l : List dPut) (i : Nat)  (n : Nat), u0.drop i = l → l.length < n → loopK laws_eqPutS_b0 n (u0, u1, u2, (i : Int)) K = laws_eqPutS_w0 u0 u1 u2 l  i (Sum.elim (fun z => K (.inl (u0, u1, z.1, z.2))) (fun z => K (.inr (u0, u1, u2, z)))) := by
  intro l
  induction l with
  | nil =>
    intro i  n hd hn
    have hge := lwl_nil hd
    cases n with
    | zero => exact absurd hn (Nat.not_lt_zero _)
    | succ n => simp only [loopK, laws_eqPutS_b0, laws_eqPutS_w0, hge, decide_false, cond_false, Sum.elim_inr, Sum.elim_inl]
  | cons y l ih =>
    intro i  n hd hn
    obtain ⟨hlt, hz, hd2, hw, hnn⟩ := lwl_cons hd h0
    have hy := lwl_get hd
    cases n with
    | zero => exact absurd hn (Nat.not_lt_zero _)
    | succ n =>
      have ih2 := ih (i + 1)  n hd2 (Nat.lt_of_succ_lt_succ hn)
      simp only [loopK, laws_eqPutS_b0, laws_eqPutS_w0, hlt, hz, decide_true, cond_true, and_self, if_true, hy, hw, hnn, Sum.elim_inl, Sum.elim_inr, ih2]

theorem laws_eqPutS_lz0 {u0} {u1} {u2} (h0 : u0.length < 9223372036854775807) {K : (((List dPut) × (List dPut) × Bool × Int) ⊕ ((List dPut) × (List dPut) × Bool × Int)) → Option Res}  : loopK laws_eqPutS_b0 Fuel (u0, u1, u2, (0 : Int)) K = laws_eqPutS_w0 u0 u1 u2 u0  0 (Sum.elim (fun z => K (.inl (u0, u1, z.1, z.2))) (fun z => K (.inr (u0, u1, u2, z)))) :=
  laws_eqPutS_lw0 h0 u0 0  Fuel rfl (lwl_fuel h0)

def laws_eqPutS_t (a0 : (List dPut)) (a1 : (List dPut)) (k : Bool → Option Res) : Option Res :=
  bif ((a0.length : Int) != (a1.length : Int)) then
    k false
  else
    laws_eqPutS_w0 a0 a1 false a0  0 (Sum.elim (fun z9 =>
      k z9.1) (fun _ =>
      k true))

theorem laws_eqPutS_r {a0 : (List dPut)} {a1 : (List dPut)} (h0 : a0.length < 9223372036854775807) {k : Bool → Option Res} : laws_eqPutS_k a0 a1 k = laws_eqPutS_t a0 a1 k := by
  rw [laws_eqPutS_e]
  simp only [laws_eqPutS_d, laws_eqPutS_t, (laws_eqPutS_lz0 h0), Sum.elim_inl, Sum.elim_inr]

def laws_heldVersionS_w0 (u0 : (List dVersion)) (u2 : Int) : List dVersion → Int → Nat → (((Int × Int × Int) ⊕ (Int × Int)) → Option Res) → Option Res
  | [], s1, i, k =>
    k (.inr (s1, (i : Int)))
  | y :: l, s1, i, k =>
    laws_markText_k s1 (fun y1 =>
      bif (!(strEq (y.1) y1)) then
        k (.inl (s1, (-1 : Int), (i : Int)))
      else
        laws_markText_k (IntKind.wrap .i64 (s1 + (1 : Int))) (fun y2 =>
          bif (!(strEq (y.2.1) y2)) then
            k (.inl ((IntKind.wrap .i64 (s1 + (1 : Int))), (-1 : Int), (i : Int)))
          else
            bif (!(y.2.2.1 == (((IntKind.wrap .i64 ((IntKind.wrap .i64 (s1 + (1 : Int))) + (1 : Int))).tmod (3 : Int)) == (0 : Int)))) then
              k (.inl ((IntKind.wrap .i64 ((IntKind.wrap .i64 (s1 + (1 : Int))) + (1 : Int))), (-1 : Int), (i : Int)))
            else
              bif (y.2.2.2 != (IntKind.wrap .i64 ((IntKind.wrap .i64 ((IntKind.wrap .i64 (s1 + (1 : Int))) + (1 : Int))) + (1 : Int)))) then
                k (.inl ((IntKind.wrap .i64 ((IntKind.wrap .i64 ((IntKind.wrap .i64 (s1 + (1 : Int))) + (1 : Int))) + (1 : Int))), (-1 : Int), (i : Int)))
              else
                laws_heldVersionS_w0 u0 u2 l (IntKind.wrap .i64 ((IntKind.wrap .i64 ((IntKind.wrap .i64 ((IntKind.wrap .i64 (s1 + (1 : Int))) + (1 : Int))) + (1 : Int))) + (1 : Int))) (i + 1) k))

theorem laws_heldVersionS_lw0 {u0} {u2} (h0 : u0.length < 9223372036854775807) {K : (((List dVersion) × Int × Int × Int) ⊕ ((List dVersion) × Int × Int × Int)) → Option Res} : ∀ (l : List dVersion) (i : Nat) (s1 : Int) (n : Nat), u0.drop i = l → l.length < n → loopK laws_heldVersionS_b0 n (u0, s1, u2, (i : Int)) K = laws_heldVersionS_w0 u0 u2 l s1 i (Sum.elim (fun z => K (.inl (u0, z.1, z.2.1, z.2.2))) (fun z => K (.inr (u0, z.1, u2, z.2)))) := by
  intro l
  induction l with
  | nil =>
    intro i s1 n hd hn
    have hge := lwl_nil hd
    cases n with
    | zero => exact absurd hn (Nat.not_lt_zero _)
    | succ n => simp only [loopK, laws_heldVersionS_b0, laws_heldVersionS_w0, hge, decide_false, cond_false, Sum.elim_inr, Sum.elim_inl]
  | cons y l ih =>
    intro i s1 n hd hn
    obtain ⟨hlt, hz, hd2, hw, hnn⟩ := lwl_cons hd h0
    have hy := lwl_get hd
    cases n with
    | zero => exact absurd hn (Nat.not_lt_zero _)
    | succ n =>
      have ih2 := fun (s1 : Int) => ih (i + 1) s1 n hd2 (Nat.lt_of_succ_lt_succ hn)
      simp only [loopK, laws_heldVersionS_b0, laws_heldVersionS_w0, hlt, hz, decide_true, cond_true, and_self, if_true, hy, hw, hnn, Sum.elim_inl, Sum.elim_inr, ih2]

theorem laws_heldVersionS_lz0 {u0} {u2} (h0 : u0.length < 9223372036854775807) {K : (((List dVersion) × Int × Int × Int) ⊕ ((List dVersion) × Int × Int × Int)) → Option Res} {s1 : Int} : loopK laws_heldVersionS_b0 Fuel (u0, s1, u2, (0 : Int)) K = laws_heldVersionS_w0 u0 u2 u0 s1 0 (Sum.elim (fun z => K (.inl (u0, z.1, z.2.1, z.2.2))) (fun z => K (.inr (u0, z.1, u2, z.2)))) :=
  laws_heldVersionS_lw0 h0 u0 0 s1 Fuel rfl (lwl_fuel h0)

def laws_heldVersionS_t (a0 : (List dVersion)) (a1 : Int) (k : Int → Option Res) : Option Res :=
  laws_heldVersionS_w0 a0 (0 : Int) a0 a1 0 (Sum.elim (fun z9 =>
    k z9.2.1) (fun z10 =>
    k z10.1))

theorem laws_heldVersionS_r {a0 : (List dVersion)} {a1 : Int} (h0 : a0.length < 9223372036854775807) {k : Int → Option Res} : laws_heldVersionS_k a0 a1 k = laws_heldVersionS_t a0 a1 k := by
  rw [laws_heldVersionS_e]
  simp only [laws_heldVersionS_d, laws_heldVersionS_t, (laws_heldVersionS_lz0 h0), Sum.elim_inl, Sum.elim_inr]

def laws_heldTxnS_w0 (u0 : (List dTxn)) (u2 : Int) : List dTxn → Int → Nat → (((Int × Int × Int) ⊕ (Int × Int)) → Option Res) → Option Res
  | [], s1, i, k =>
    k (.inr (s1, (i : Int)))
  | y :: l, s1, i, k =>
    bif (y.1 != s1) then
      k (.inl (s1, (-1 : Int), (i : Int)))
    else
      bif (y.2.1 != (IntKind.wrap .i64 (s1 + (1 : Int)))) then
        k (.inl ((IntKind.wrap .i64 (s1 + (1 : Int))), (-1 : Int), (i : Int)))
      else
        bif (y.2.2.1 != (IntKind.wrap .i64 ((IntKind.wrap .i64 (s1 + (1 : Int))) + (1 : Int)))) then
          k (.inl ((IntKind.wrap .i64 ((IntKind.wrap .i64 (s1 + (1 : Int))) + (1 : Int))), (-1 : Int), (i : Int)))
        else
          bif (y.2.2.2.1 != (IntKind.wrap .i64 ((IntKind.wrap .i64 ((IntKind.wrap .i64 (s1 + (1 : Int))) + (1 : Int))) + (1 : Int)))) then
            k (.inl ((IntKind.wrap .i64 ((IntKind.wrap .i64 ((IntKind.wrap .i64 (s1 + (1 : Int))) + (1 : Int))) + (1 : Int))), (-1 : Int), (i : Int)))
          else
            laws_heldRangeS_k y.2.2.2.2.1 (IntKind.wrap .i64 ((IntKind.wrap .i64 ((IntKind.wrap .i64 ((IntKind.wrap .i64 (s1 + (1 : Int))) + (1 : Int))) + (1 : Int))) + (1 : Int))) (fun y1 =>
              bif (decide (y1 < (0 : Int))) then
                k (.inl (y1, (-1 : Int), (i : Int)))
              else
                laws_heldWriteS_k y.2.2.2.2.2.1 y1 (fun y2 =>
                  bif (decide (y2 < (0 : Int))) then
                    k (.inl (y2, (-1 : Int), (i : Int)))
                  else
                    bif (!(y.2.2.2.2.2.2.1 == ((y2.tmod (3 : Int)) == (0 : Int)))) then
                      k (.inl (y2, (-1 : Int), (i : Int)))
                    else
                      laws_markText_k (IntKind.wrap .i64 (y2 + (1 : Int))) (fun y3 =>
                        bif (!(strEq (y.2.2.2.2.2.2.2) y3)) then
                          k (.inl ((IntKind.wrap .i64 (y2 + (1 : Int))), (-1 : Int), (i : Int)))
                        else
                          laws_heldTxnS_w0 u0 u2 l (IntKind.wrap .i64 ((IntKind.wrap .i64 (y2 + (1 : Int))) + (1 : Int))) (i + 1) k)))

theorem laws_heldTxnS_lw0 {u0} {u2} (h0 : u0.length < 9223372036854775807) {K : (((List dTxn) × Int × Int × Int) ⊕ ((List dTxn) × Int × Int × Int)) → Option Res} : ∀ (l : List dTxn) (i : Nat) (s1 : Int) (n : Nat), u0.drop i = l → l.length < n → loopK laws_heldTxnS_b0 n (u0, s1, u2, (i : Int)) K = laws_heldTxnS_w0 u0 u2 l s1 i (Sum.elim (fun z => K (.inl (u0, z.1, z.2.1, z.2.2))) (fun z => K (.inr (u0, z.1, u2, z.2)))) := by
  intro l
  induction l with
  | nil =>
    intro i s1 n hd hn
    have hge := lwl_nil hd
    cases n with
    | zero => exact absurd hn (Nat.not_lt_zero _)
    | succ n => simp only [loopK, laws_heldTxnS_b0, laws_heldTxnS_w0, hge, decide_false, cond_false, Sum.elim_inr, Sum.elim_inl]
  | cons y l ih =>
    intro i s1 n hd hn
    obtain ⟨hlt, hz, hd2, hw, hnn⟩ := lwl_cons hd h0
    have hy := lwl_get hd
    cases n with
    | zero => exact absurd hn (Nat.not_lt_zero _)
    | succ n =>
      have ih2 := fun (s1 : Int) => ih (i + 1) s1 n hd2 (Nat.lt_of_succ_lt_succ hn)
      simp only [loopK, laws_heldTxnS_b0, laws_heldTxnS_w0, hlt, hz, decide_true, cond_true, and_self, if_true, hy, hw, hnn, Sum.elim_inl, Sum.elim_inr, ih2]

theorem laws_heldTxnS_lz0 {u0} {u2} (h0 : u0.length < 9223372036854775807) {K : (((List dTxn) × Int × Int × Int) ⊕ ((List dTxn) × Int × Int × Int)) → Option Res} {s1 : Int} : loopK laws_heldTxnS_b0 Fuel (u0, s1, u2, (0 : Int)) K = laws_heldTxnS_w0 u0 u2 u0 s1 0 (Sum.elim (fun z => K (.inl (u0, z.1, z.2.1, z.2.2))) (fun z => K (.inr (u0, z.1, u2, z.2)))) :=
  laws_heldTxnS_lw0 h0 u0 0 s1 Fuel rfl (lwl_fuel h0)

def laws_heldTxnS_t (a0 : (List dTxn)) (a1 : Int) (k : Int → Option Res) : Option Res :=
  laws_heldTxnS_w0 a0 (0 : Int) a0 a1 0 (Sum.elim (fun z9 =>
    k z9.2.1) (fun z10 =>
    k z10.1))

theorem laws_heldTxnS_r {a0 : (List dTxn)} {a1 : Int} (h0 : a0.length < 9223372036854775807) {k : Int → Option Res} : laws_heldTxnS_k a0 a1 k = laws_heldTxnS_t a0 a1 k := by
  rw [laws_heldTxnS_e]
  simp only [laws_heldTxnS_d, laws_heldTxnS_t, (laws_heldTxnS_lz0 h0), Sum.elim_inl, Sum.elim_inr]

def laws_heldStringS_w0 (u0 : (List ByteArray)) (u2 : Int) : List ByteArray → Int → Nat → (((Int × Int × Int) ⊕ (Int × Int)) → Option Res) → Option Res
  | [], s1, i, k =>
    k (.inr (s1, (i : Int)))
  | y :: l, s1, i, k =>
    laws_markText_k s1 (fun y1 =>
      bif (!(strEq y y1)) then
        k (.inl (s1, (-1 : Int), (i : Int)))
      else
        laws_heldStringS_w0 u0 u2 l (IntKind.wrap .i64 (s1 + (1 : Int))) (i + 1) k)

theorem laws_heldStringS_lw0 {u0} {u2} (h0 : u0.length < 9223372036854775807) {K : (((List ByteArray) × Int × Int × Int) ⊕ ((List ByteArray) × Int × Int × Int)) → Option Res} : ∀ (l : List ByteArray) (i : Nat) (s1 : Int) (n : Nat), u0.drop i = l → l.length < n → loopK laws_heldStringS_b0 n (u0, s1, u2, (i : Int)) K = laws_heldStringS_w0 u0 u2 l s1 i (Sum.elim (fun z => K (.inl (u0, z.1, z.2.1, z.2.2))) (fun z => K (.inr (u0, z.1, u2, z.2)))) := by
  intro l
  induction l with
  | nil =>
    intro i s1 n hd hn
    have hge := lwl_nil hd
    cases n with
    | zero => exact absurd hn (Nat.not_lt_zero _)
    | succ n => simp only [loopK, laws_heldStringS_b0, laws_heldStringS_w0, hge, decide_false, cond_false, Sum.elim_inr, Sum.elim_inl]
  | cons y l ih =>
    intro i s1 n hd hn
    obtain ⟨hlt, hz, hd2, hw, hnn⟩ := lwl_cons hd h0
    have hy := lwl_get hd
    cases n with
    | zero => exact absurd hn (Nat.not_lt_zero _)
    | succ n =>
      have ih2 := fun (s1 : Int) => ih (i + 1) s1 n hd2 (Nat.lt_of_succ_lt_succ hn)
      simp only [loopK, laws_heldStringS_b0, laws_heldStringS_w0, hlt, hz, decide_true, cond_true, and_self, if_true, hy, hw, hnn, Sum.elim_inl, Sum.elim_inr, ih2]

theorem laws_heldStringS_lz0 {u0} {u2} (h0 : u0.length < 9223372036854775807) {K : (((List ByteArray) × Int × Int × Int) ⊕ ((List ByteArray) × Int × Int × Int)) → Option Res} {s1 : Int} : loopK laws_heldStringS_b0 Fuel (u0, s1, u2, (0 : Int)) K = laws_heldStringS_w0 u0 u2 u0 s1 0 (Sum.elim (fun z => K (.inl (u0, z.1, z.2.1, z.2.2))) (fun z => K (.inr (u0, z.1, u2, z.2)))) :=
  laws_heldStringS_lw0 h0 u0 0 s1 Fuel rfl (lwl_fuel h0)

def laws_heldStringS_t (a0 : (List ByteArray)) (a1 : Int) (k : Int → Option Res) : Option Res :=
  laws_heldStringS_w0 a0 (0 : Int) a0 a1 0 (Sum.elim (fun z9 =>
    k z9.2.1) (fun z10 =>
    k z10.1))

theorem laws_heldStringS_r {a0 : (List ByteArray)} {a1 : Int} (h0 : a0.length < 9223372036854775807) {k : Int → Option Res} : laws_heldStringS_k a0 a1 k = laws_heldStringS_t a0 a1 k := by
  rw [laws_heldStringS_e]
  simp only [laws_heldStringS_d, laws_heldStringS_t, (laws_heldStringS_lz0 h0), Sum.elim_inl, Sum.elim_inr]

def laws_heldPutS_w0 (u0 : (List dPut)) (u2 : Int) : List dPut → Int → Nat → (((Int × Int × Int) ⊕ (Int × Int)) → Option Res) → Option Res
  | [], s1, i, k =>
    k (.inr (s1, (i : Int)))
  | y :: l, s1, i, k =>
    bif (y.1 != s1) then
      k (.inl (s1, (-1 : Int), (i : Int)))
    else
      laws_markText_k (IntKind.wrap .i64 (s1 + (1 : Int))) (fun y1 =>
        bif (!(strEq (y.2) y1)) then
          k (.inl ((IntKind.wrap .i64 (s1 + (1 : Int))), (-1 : Int), (i : Int)))
        else
          laws_heldPutS_w0 u0 u2 l (IntKind.wrap .i64 ((IntKind.wrap .i64 (s1 + (1 : Int))) + (1 : Int))) (i + 1) k)

theorem laws_heldPutS_lw0 {u0} {u2} (h0 : u0.length < 9223372036854775807) {K : (((List dPut) × Int × Int × Int) ⊕ ((List dPut) × Int × Int × Int)) → Option Res} : ∀ (l : List dPut) (i : Nat) (s1 : Int) (n : Nat), u0.drop i = l → l.length < n → loopK laws_heldPutS_b0 n (u0, s1, u2, (i : Int)) K = laws_heldPutS_w0 u0 u2 l s1 i (Sum.elim (fun z => K (.inl (u0, z.1, z.2.1, z.2.2))) (fun z => K (.inr (u0, z.1, u2, z.2)))) := by
  intro l
  induction l with
  | nil =>
    intro i s1 n hd hn
    have hge := lwl_nil hd
    cases n with
    | zero => exact absurd hn (Nat.not_lt_zero _)
    | succ n => simp only [loopK, laws_heldPutS_b0, laws_heldPutS_w0, hge, decide_false, cond_false, Sum.elim_inr, Sum.elim_inl]
  | cons y l ih =>
    intro i s1 n hd hn
    obtain ⟨hlt, hz, hd2, hw, hnn⟩ := lwl_cons hd h0
    have hy := lwl_get hd
    cases n with
    | zero => exact absurd hn (Nat.not_lt_zero _)
    | succ n =>
      have ih2 := fun (s1 : Int) => ih (i + 1) s1 n hd2 (Nat.lt_of_succ_lt_succ hn)
      simp only [loopK, laws_heldPutS_b0, laws_heldPutS_w0, hlt, hz, decide_true, cond_true, and_self, if_true, hy, hw, hnn, Sum.elim_inl, Sum.elim_inr, ih2]

theorem laws_heldPutS_lz0 {u0} {u2} (h0 : u0.length < 9223372036854775807) {K : (((List dPut) × Int × Int × Int) ⊕ ((List dPut) × Int × Int × Int)) → Option Res} {s1 : Int} : loopK laws_heldPutS_b0 Fuel (u0, s1, u2, (0 : Int)) K = laws_heldPutS_w0 u0 u2 u0 s1 0 (Sum.elim (fun z => K (.inl (u0, z.1, z.2.1, z.2.2))) (fun z => K (.inr (u0, z.1, u2, z.2)))) :=
  laws_heldPutS_lw0 h0 u0 0 s1 Fuel rfl (lwl_fuel h0)

def laws_heldPutS_t (a0 : (List dPut)) (a1 : Int) (k : Int → Option Res) : Option Res :=
  laws_heldPutS_w0 a0 (0 : Int) a0 a1 0 (Sum.elim (fun z9 =>
    k z9.2.1) (fun z10 =>
    k z10.1))

theorem laws_heldPutS_r {a0 : (List dPut)} {a1 : Int} (h0 : a0.length < 9223372036854775807) {k : Int → Option Res} : laws_heldPutS_k a0 a1 k = laws_heldPutS_t a0 a1 k := by
  rw [laws_heldPutS_e]
  simp only [laws_heldPutS_d, laws_heldPutS_t, (laws_heldPutS_lz0 h0), Sum.elim_inl, Sum.elim_inr]

end

end Go.VE
