/- Loops told as recursions over what is left; written by gen.py. -/

import Derived.Test.YtpmahbmokfaflaaGetKeyN

import Derived.Test.YtpmahbmokfaflaaP1

namespace Go.VE

noncomputable section

set_option linter.unusedVariables false
set_option linter.unusedSimpArgs false
set_option maxRecDepth 100000


def n51n_w0 (u0 : (List dVersion)) (u2 : Int) : List dVersion → Int → Nat → (((Int × Int × Int) ⊕ (Int × Int)) → Option Res) → Option Res
  | [], s1, i, k =>
    k (.inr (s1, (i : Int)))
  | y :: l, s1, i, k =>
    n50n_k y s1 (fun y1 =>
      bif (decide (y1 < (0 : Int))) then
        k (.inl (y1, (-1 : Int), (i : Int)))
      else
        n51n_w0 u0 u2 l y1 (i + 1) k)

theorem n51n_lw0 {u0} {u2} (h0 : u0.length < 9223372036854775807) {K : (q14T ⊕ q14T) → Option Res} : ∀ (l : List dVersion) (i : Nat) (s1 : Int) (n : Nat), u0.drop i = l → l.length < n → loopK n51n_b0 n (u0, s1, u2, (i : Int)) K = n51n_w0 u0 u2 l s1 i (Sum.elim (fun z => K (.inl (u0, z.1, z.2.1, z.2.2))) (fun z => K (.inr (u0, z.1, u2, z.2)))) := by
  intro l
  induction l with
  | nil =>
    intro i s1 n hd hn
    have hge := lwl_nil hd
    cases n with
    | zero => exact absurd hn (Nat.not_lt_zero _)
    | succ n => simp only [loopK, n51n_b0, n51n_w0, hge, decide_false, cond_false, Sum.elim_inr, Sum.elim_inl]
  | cons y l ih =>
    intro i s1 n hd hn
    obtain ⟨hlt, hz, hd2, hw, hnn⟩ := lwl_cons hd h0
    have hy := lwl_get hd
    cases n with
    | zero => exact absurd hn (Nat.not_lt_zero _)
    | succ n =>
      have ih2 := fun (s1 : Int) => ih (i + 1) s1 n hd2 (Nat.lt_of_succ_lt_succ hn)
      simp only [loopK, n51n_b0, n51n_w0, hlt, hz, decide_true, cond_true, and_self, if_true, hy, hw, hnn, Sum.elim_inl, Sum.elim_inr, ih2]

theorem n51n_lz0 {u0} {u2} (h0 : u0.length < 9223372036854775807) {K : (q14T ⊕ q14T) → Option Res} {s1 : Int} : loopK n51n_b0 Fuel (u0, s1, u2, (0 : Int)) K = n51n_w0 u0 u2 u0 s1 0 (Sum.elim (fun z => K (.inl (u0, z.1, z.2.1, z.2.2))) (fun z => K (.inr (u0, z.1, u2, z.2)))) :=
  n51n_lw0 h0 u0 0 s1 Fuel rfl (lwl_fuel h0)

def n47n_w0 (u0 : (List dRange)) (u2 : Int) : List dRange → Int → Nat → (((Int × Int × Int) ⊕ (Int × Int)) → Option Res) → Option Res
  | [], s1, i, k =>
    k (.inr (s1, (i : Int)))
  | y :: l, s1, i, k =>
    n46n_k y s1 (fun y1 =>
      bif (decide (y1 < (0 : Int))) then
        k (.inl (y1, (-1 : Int), (i : Int)))
      else
        n47n_w0 u0 u2 l y1 (i + 1) k)

theorem n47n_lw0 {u0} {u2} (h0 : u0.length < 9223372036854775807) {K : (q3T ⊕ q3T) → Option Res} : ∀ (l : List dRange) (i : Nat) (s1 : Int) (n : Nat), u0.drop i = l → l.length < n → loopK n47n_b0 n (u0, s1, u2, (i : Int)) K = n47n_w0 u0 u2 l s1 i (Sum.elim (fun z => K (.inl (u0, z.1, z.2.1, z.2.2))) (fun z => K (.inr (u0, z.1, u2, z.2)))) := by
  intro l
  induction l with
  | nil =>
    intro i s1 n hd hn
    have hge := lwl_nil hd
    cases n with
    | zero => exact absurd hn (Nat.not_lt_zero _)
    | succ n => simp only [loopK, n47n_b0, n47n_w0, hge, decide_false, cond_false, Sum.elim_inr, Sum.elim_inl]
  | cons y l ih =>
    intro i s1 n hd hn
    obtain ⟨hlt, hz, hd2, hw, hnn⟩ := lwl_cons hd h0
    have hy := lwl_get hd
    cases n with
    | zero => exact absurd hn (Nat.not_lt_zero _)
    | succ n =>
      have ih2 := fun (s1 : Int) => ih (i + 1) s1 n hd2 (Nat.lt_of_succ_lt_succ hn)
      simp only [loopK, n47n_b0, n47n_w0, hlt, hz, decide_true, cond_true, and_self, if_true, hy, hw, hnn, Sum.elim_inl, Sum.elim_inr, ih2]

theorem n47n_lz0 {u0} {u2} (h0 : u0.length < 9223372036854775807) {K : (q3T ⊕ q3T) → Option Res} {s1 : Int} : loopK n47n_b0 Fuel (u0, s1, u2, (0 : Int)) K = n47n_w0 u0 u2 u0 s1 0 (Sum.elim (fun z => K (.inl (u0, z.1, z.2.1, z.2.2))) (fun z => K (.inr (u0, z.1, u2, z.2)))) :=
  n47n_lw0 h0 u0 0 s1 Fuel rfl (lwl_fuel h0)

def n53n_w0 (u0 : (List dWrite)) (u2 : Int) : List dWrite → Int → Nat → (((Int × Int × Int) ⊕ (Int × Int)) → Option Res) → Option Res
  | [], s1, i, k =>
    k (.inr (s1, (i : Int)))
  | y :: l, s1, i, k =>
    n52n_k y s1 (fun y1 =>
      bif (decide (y1 < (0 : Int))) then
        k (.inl (y1, (-1 : Int), (i : Int)))
      else
        n53n_w0 u0 u2 l y1 (i + 1) k)

theorem n53n_lw0 {u0} {u2} (h0 : u0.length < 9223372036854775807) {K : (q19T ⊕ q19T) → Option Res} : ∀ (l : List dWrite) (i : Nat) (s1 : Int) (n : Nat), u0.drop i = l → l.length < n → loopK n53n_b0 n (u0, s1, u2, (i : Int)) K = n53n_w0 u0 u2 l s1 i (Sum.elim (fun z => K (.inl (u0, z.1, z.2.1, z.2.2))) (fun z => K (.inr (u0, z.1, u2, z.2)))) := by
  intro l
  induction l with
  | nil =>
    intro i s1 n hd hn
    have hge := lwl_nil hd
    cases n with
    | zero => exact absurd hn (Nat.not_lt_zero _)
    | succ n => simp only [loopK, n53n_b0, n53n_w0, hge, decide_false, cond_false, Sum.elim_inr, Sum.elim_inl]
  | cons y l ih =>
    intro i s1 n hd hn
    obtain ⟨hlt, hz, hd2, hw, hnn⟩ := lwl_cons hd h0
    have hy := lwl_get hd
    cases n with
    | zero => exact absurd hn (Nat.not_lt_zero _)
    | succ n =>
      have ih2 := fun (s1 : Int) => ih (i + 1) s1 n hd2 (Nat.lt_of_succ_lt_succ hn)
      simp only [loopK, n53n_b0, n53n_w0, hlt, hz, decide_true, cond_true, and_self, if_true, hy, hw, hnn, Sum.elim_inl, Sum.elim_inr, ih2]

theorem n53n_lz0 {u0} {u2} (h0 : u0.length < 9223372036854775807) {K : (q19T ⊕ q19T) → Option Res} {s1 : Int} : loopK n53n_b0 Fuel (u0, s1, u2, (0 : Int)) K = n53n_w0 u0 u2 u0 s1 0 (Sum.elim (fun z => K (.inl (u0, z.1, z.2.1, z.2.2))) (fun z => K (.inr (u0, z.1, u2, z.2)))) :=
  n53n_lw0 h0 u0 0 s1 Fuel rfl (lwl_fuel h0)

def n49n_w0 (u0 : (List dTxn)) (u2 : Int) : List dTxn → Int → Nat → (((Int × Int × Int) ⊕ (Int × Int)) → Option Res) → Option Res
  | [], s1, i, k =>
    k (.inr (s1, (i : Int)))
  | y :: l, s1, i, k =>
    n48n_k y s1 (fun y1 =>
      bif (decide (y1 < (0 : Int))) then
        k (.inl (y1, (-1 : Int), (i : Int)))
      else
        n49n_w0 u0 u2 l y1 (i + 1) k)

theorem n49n_lw0 {u0} {u2} (h0 : u0.length < 9223372036854775807) {K : (q8T ⊕ q8T) → Option Res} : ∀ (l : List dTxn) (i : Nat) (s1 : Int) (n : Nat), u0.drop i = l → l.length < n → loopK n49n_b0 n (u0, s1, u2, (i : Int)) K = n49n_w0 u0 u2 l s1 i (Sum.elim (fun z => K (.inl (u0, z.1, z.2.1, z.2.2))) (fun z => K (.inr (u0, z.1, u2, z.2)))) := by
  intro l
  induction l with
  | nil =>
    intro i s1 n hd hn
    have hge := lwl_nil hd
    cases n with
    | zero => exact absurd hn (Nat.not_lt_zero _)
    | succ n => simp only [loopK, n49n_b0, n49n_w0, hge, decide_false, cond_false, Sum.elim_inr, Sum.elim_inl]
  | cons y l ih =>
    intro i s1 n hd hn
    obtain ⟨hlt, hz, hd2, hw, hnn⟩ := lwl_cons hd h0
    have hy := lwl_get hd
    cases n with
    | zero => exact absurd hn (Nat.not_lt_zero _)
    | succ n =>
      have ih2 := fun (s1 : Int) => ih (i + 1) s1 n hd2 (Nat.lt_of_succ_lt_succ hn)
      simp only [loopK, n49n_b0, n49n_w0, hlt, hz, decide_true, cond_true, and_self, if_true, hy, hw, hnn, Sum.elim_inl, Sum.elim_inr, ih2]

theorem n49n_lz0 {u0} {u2} (h0 : u0.length < 9223372036854775807) {K : (q8T ⊕ q8T) → Option Res} {s1 : Int} : loopK n49n_b0 Fuel (u0, s1, u2, (0 : Int)) K = n49n_w0 u0 u2 u0 s1 0 (Sum.elim (fun z => K (.inl (u0, z.1, z.2.1, z.2.2))) (fun z => K (.inr (u0, z.1, u2, z.2)))) :=
  n49n_lw0 h0 u0 0 s1 Fuel rfl (lwl_fuel h0)

def n61n_w0 (u0 : (List dVersion)) : List dVersion → (List dVersion) → Nat → ((Int × (List dVersion)) → Option Res) → Option Res
  | [], s2, i, k =>
    k ((i : Int), s2)
  | y :: l, s2, i, k =>
    n60n_k y (fun y1 =>
      if 0 ≤ (i : Int) ∧ (i : Int) < (s2.length : Int) then
        n61n_w0 u0 l (s2.set (i : Int).toNat y1) (i + 1) k
      else none)

theorem n61n_lw0 {u0} (h0 : u0.length < 9223372036854775807) {K : q13T → Option Res} : ∀ (l : List dVersion) (i : Nat) (s2 : (List dVersion)) (n : Nat), u0.drop i = l → l.length < n → loopK n61n_b0 n (u0, (i : Int), s2) K = n61n_w0 u0 l s2 i (fun z => K (u0, z.1, z.2)) := by
  intro l
  induction l with
  | nil =>
    intro i s2 n hd hn
    have hge := lwl_nil hd
    cases n with
    | zero => exact absurd hn (Nat.not_lt_zero _)
    | succ n => simp only [loopK, n61n_b0, n61n_w0, hge, decide_false, cond_false, Sum.elim_inr, Sum.elim_inl]
  | cons y l ih =>
    intro i s2 n hd hn
    obtain ⟨hlt, hz, hd2, hw, hnn⟩ := lwl_cons hd h0
    have hy := lwl_get hd
    cases n with
    | zero => exact absurd hn (Nat.not_lt_zero _)
    | succ n =>
      have ih2 := fun (s2 : (List dVersion)) => ih (i + 1) s2 n hd2 (Nat.lt_of_succ_lt_succ hn)
      simp only [loopK, n61n_b0, n61n_w0, hlt, hz, decide_true, cond_true, and_self, if_true, hy, hw, hnn, Sum.elim_inl, Sum.elim_inr, ih2]

theorem n61n_lz0 {u0} (h0 : u0.length < 9223372036854775807) {K : q13T → Option Res} {s2 : (List dVersion)} : loopK n61n_b0 Fuel (u0, (0 : Int), s2) K = n61n_w0 u0 u0 s2 0 (fun z => K (u0, z.1, z.2)) :=
  n61n_lw0 h0 u0 0 s2 Fuel rfl (lwl_fuel h0)

def n61n_t (a0 : (List dVersion)) (k : (List dVersion) → Option Res) : Option Res :=
  if 0 ≤ (a0.length : Int) ∧ (a0.length : Int) ≤ (a0.length : Int) ∧ (a0.length : Int) ≤ (VE.maxLen : Int) then
    n61n_w0 a0 a0 (List.replicate (a0.length : Int).toNat (Ty.zero tVersion)) 0 (fun z23 =>
      k z23.2)
  else none

theorem n61n_r {a0 : (List dVersion)} (h0 : a0.length < 9223372036854775807) {k : (List dVersion) → Option Res} : n61n_k a0 k = n61n_t a0 k := by
  rw [n61n_e]
  simp only [n61n_d, n61n_t, (n61n_lz0 h0), Sum.elim_inl, Sum.elim_inr]

def n57n_w0 (u0 : (List dRange)) : List dRange → (List dRange) → Nat → ((Int × (List dRange)) → Option Res) → Option Res
  | [], s2, i, k =>
    k ((i : Int), s2)
  | y :: l, s2, i, k =>
    n56n_k y (fun y1 =>
      if 0 ≤ (i : Int) ∧ (i : Int) < (s2.length : Int) then
        n57n_w0 u0 l (s2.set (i : Int).toNat y1) (i + 1) k
      else none)

theorem n57n_lw0 {u0} (h0 : u0.length < 9223372036854775807) {K : q1T → Option Res} : ∀ (l : List dRange) (i : Nat) (s2 : (List dRange)) (n : Nat), u0.drop i = l → l.length < n → loopK n57n_b0 n (u0, (i : Int), s2) K = n57n_w0 u0 l s2 i (fun z => K (u0, z.1, z.2)) := by
  intro l
  induction l with
  | nil =>
    intro i s2 n hd hn
    have hge := lwl_nil hd
    cases n with
    | zero => exact absurd hn (Nat.not_lt_zero _)
    | succ n => simp only [loopK, n57n_b0, n57n_w0, hge, decide_false, cond_false, Sum.elim_inr, Sum.elim_inl]
  | cons y l ih =>
    intro i s2 n hd hn
    obtain ⟨hlt, hz, hd2, hw, hnn⟩ := lwl_cons hd h0
    have hy := lwl_get hd
    cases n with
    | zero => exact absurd hn (Nat.not_lt_zero _)
    | succ n =>
      have ih2 := fun (s2 : (List dRange)) => ih (i + 1) s2 n hd2 (Nat.lt_of_succ_lt_succ hn)
      simp only [loopK, n57n_b0, n57n_w0, hlt, hz, decide_true, cond_true, and_self, if_true, hy, hw, hnn, Sum.elim_inl, Sum.elim_inr, ih2]

theorem n57n_lz0 {u0} (h0 : u0.length < 9223372036854775807) {K : q1T → Option Res} {s2 : (List dRange)} : loopK n57n_b0 Fuel (u0, (0 : Int), s2) K = n57n_w0 u0 u0 s2 0 (fun z => K (u0, z.1, z.2)) :=
  n57n_lw0 h0 u0 0 s2 Fuel rfl (lwl_fuel h0)

def n57n_t (a0 : (List dRange)) (k : (List dRange) → Option Res) : Option Res :=
  if 0 ≤ (a0.length : Int) ∧ (a0.length : Int) ≤ (a0.length : Int) ∧ (a0.length : Int) ≤ (VE.maxLen : Int) then
    n57n_w0 a0 a0 (List.replicate (a0.length : Int).toNat (Ty.zero tRange)) 0 (fun z23 =>
      k z23.2)
  else none

theorem n57n_r {a0 : (List dRange)} (h0 : a0.length < 9223372036854775807) {k : (List dRange) → Option Res} : n57n_k a0 k = n57n_t a0 k := by
  rw [n57n_e]
  simp only [n57n_d, n57n_t, (n57n_lz0 h0), Sum.elim_inl, Sum.elim_inr]

def n63n_w0 (u0 : (List dWrite)) : List dWrite → (List dWrite) → Nat → ((Int × (List dWrite)) → Option Res) → Option Res
  | [], s2, i, k =>
    k ((i : Int), s2)
  | y :: l, s2, i, k =>
    n62n_k y (fun y1 =>
      if 0 ≤ (i : Int) ∧ (i : Int) < (s2.length : Int) then
        n63n_w0 u0 l (s2.set (i : Int).toNat y1) (i + 1) k
      else none)

theorem n63n_lw0 {u0} (h0 : u0.length < 9223372036854775807) {K : q17T → Option Res} : ∀ (l : List dWrite) (i : Nat) (s2 : (List dWrite)) (n : Nat), u0.drop i = l → l.length < n → loopK n63n_b0 n (u0, (i : Int), s2) K = n63n_w0 u0 l s2 i (fun z => K (u0, z.1, z.2)) := by
  intro l
  induction l with
  | nil =>
    intro i s2 n hd hn
    have hge := lwl_nil hd
    cases n with
    | zero => exact absurd hn (Nat.not_lt_zero _)
    | succ n => simp only [loopK, n63n_b0, n63n_w0, hge, decide_false, cond_false, Sum.elim_inr, Sum.elim_inl]
  | cons y l ih =>
    intro i s2 n hd hn
    obtain ⟨hlt, hz, hd2, hw, hnn⟩ := lwl_cons hd h0
    have hy := lwl_get hd
    cases n with
    | zero => exact absurd hn (Nat.not_lt_zero _)
    | succ n =>
      have ih2 := fun (s2 : (List dWrite)) => ih (i + 1) s2 n hd2 (Nat.lt_of_succ_lt_succ hn)
      simp only [loopK, n63n_b0, n63n_w0, hlt, hz, decide_true, cond_true, and_self, if_true, hy, hw, hnn, Sum.elim_inl, Sum.elim_inr, ih2]

theorem n63n_lz0 {u0} (h0 : u0.length < 9223372036854775807) {K : q17T → Option Res} {s2 : (List dWrite)} : loopK n63n_b0 Fuel (u0, (0 : Int), s2) K = n63n_w0 u0 u0 s2 0 (fun z => K (u0, z.1, z.2)) :=
  n63n_lw0 h0 u0 0 s2 Fuel rfl (lwl_fuel h0)

def n63n_t (a0 : (List dWrite)) (k : (List dWrite) → Option Res) : Option Res :=
  if 0 ≤ (a0.length : Int) ∧ (a0.length : Int) ≤ (a0.length : Int) ∧ (a0.length : Int) ≤ (VE.maxLen : Int) then
    n63n_w0 a0 a0 (List.replicate (a0.length : Int).toNat (Ty.zero tWrite)) 0 (fun z23 =>
      k z23.2)
  else none

theorem n63n_r {a0 : (List dWrite)} (h0 : a0.length < 9223372036854775807) {k : (List dWrite) → Option Res} : n63n_k a0 k = n63n_t a0 k := by
  rw [n63n_e]
  simp only [n63n_d, n63n_t, (n63n_lz0 h0), Sum.elim_inl, Sum.elim_inr]

def n59n_w0 (u0 : (List dTxn)) : List dTxn → (List dTxn) → Nat → ((Int × (List dTxn)) → Option Res) → Option Res
  | [], s2, i, k =>
    k ((i : Int), s2)
  | y :: l, s2, i, k =>
    n58n_k y (fun y1 =>
      if 0 ≤ (i : Int) ∧ (i : Int) < (s2.length : Int) then
        n59n_w0 u0 l (s2.set (i : Int).toNat (y1.1, (y1.2.1, (y1.2.2.1, (y1.2.2.2.1, (y1.2.2.2.2.2.2.1, (y1.2.2.2.2.2.2.2, (y1.2.2.2.2.1, y1.2.2.2.2.2.1)))))))) (i + 1) k
      else none)

theorem n59n_lw0 {u0} (h0 : u0.length < 9223372036854775807) {K : q5T → Option Res} : ∀ (l : List dTxn) (i : Nat) (s2 : (List dTxn)) (n : Nat), u0.drop i = l → l.length < n → loopK n59n_b0 n (u0, (i : Int), s2) K = n59n_w0 u0 l s2 i (fun z => K (u0, z.1, z.2)) := by
  intro l
  induction l with
  | nil =>
    intro i s2 n hd hn
    have hge := lwl_nil hd
    cases n with
    | zero => exact absurd hn (Nat.not_lt_zero _)
    | succ n => simp only [loopK, n59n_b0, n59n_w0, hge, decide_false, cond_false, Sum.elim_inr, Sum.elim_inl]
  | cons y l ih =>
    intro i s2 n hd hn
    obtain ⟨hlt, hz, hd2, hw, hnn⟩ := lwl_cons hd h0
    have hy := lwl_get hd
    cases n with
    | zero => exact absurd hn (Nat.not_lt_zero _)
    | succ n =>
      have ih2 := fun (s2 : (List dTxn)) => ih (i + 1) s2 n hd2 (Nat.lt_of_succ_lt_succ hn)
      simp only [loopK, n59n_b0, n59n_w0, hlt, hz, decide_true, cond_true, and_self, if_true, hy, hw, hnn, Sum.elim_inl, Sum.elim_inr, ih2]

theorem n59n_lz0 {u0} (h0 : u0.length < 9223372036854775807) {K : q5T → Option Res} {s2 : (List dTxn)} : loopK n59n_b0 Fuel (u0, (0 : Int), s2) K = n59n_w0 u0 u0 s2 0 (fun z => K (u0, z.1, z.2)) :=
  n59n_lw0 h0 u0 0 s2 Fuel rfl (lwl_fuel h0)

def n59n_t (a0 : (List dTxn)) (k : (List dTxn) → Option Res) : Option Res :=
  if 0 ≤ (a0.length : Int) ∧ (a0.length : Int) ≤ (a0.length : Int) ∧ (a0.length : Int) ≤ (VE.maxLen : Int) then
    n59n_w0 a0 a0 (List.replicate (a0.length : Int).toNat (Ty.zero tTxn)) 0 (fun z23 =>
      k z23.2)
  else none

theorem n59n_r {a0 : (List dTxn)} (h0 : a0.length < 9223372036854775807) {k : (List dTxn) → Option Res} : n59n_k a0 k = n59n_t a0 k := by
  rw [n59n_e]
  simp only [n59n_d, n59n_t, (n59n_lz0 h0), Sum.elim_inl, Sum.elim_inr]

def n82n_w0 (u0 : (List dTxn)) : List dTxn → (List dTxn) → Nat → ((Int × (List dTxn)) → Option Res) → Option Res
  | [], s2, i, k =>
    k ((i : Int), s2)
  | y :: l, s2, i, k =>
    n80n_k y (fun y1 =>
      if s2.length + [(y1.1, (y1.2.1, (y1.2.2.1, (y1.2.2.2.1, (y1.2.2.2.2.2.2.1, (y1.2.2.2.2.2.2.2, (y1.2.2.2.2.1, y1.2.2.2.2.2.1)))))))].length ≤ VE.maxLen then
        n82n_w0 u0 l (s2 ++ [(y1.1, (y1.2.1, (y1.2.2.1, (y1.2.2.2.1, (y1.2.2.2.2.2.2.1, (y1.2.2.2.2.2.2.2, (y1.2.2.2.2.1, y1.2.2.2.2.2.1)))))))]) (i + 1) k
      else none)

theorem n82n_lw0 {u0} (h0 : u0.length < 9223372036854775807) {K : q5T → Option Res} : ∀ (l : List dTxn) (i : Nat) (s2 : (List dTxn)) (n : Nat), u0.drop i = l → l.length < n → loopK n82n_b0 n (u0, (i : Int), s2) K = n82n_w0 u0 l s2 i (fun z => K (u0, z.1, z.2)) := by
  intro l
  induction l with
  | nil =>
    intro i s2 n hd hn
    have hge := lwl_nil hd
    cases n with
    | zero => exact absurd hn (Nat.not_lt_zero _)
    | succ n => simp only [loopK, n82n_b0, n82n_w0, hge, decide_false, cond_false, Sum.elim_inr, Sum.elim_inl]
  | cons y l ih =>
    intro i s2 n hd hn
    obtain ⟨hlt, hz, hd2, hw, hnn⟩ := lwl_cons hd h0
    have hy := lwl_get hd
    cases n with
    | zero => exact absurd hn (Nat.not_lt_zero _)
    | succ n =>
      have ih2 := fun (s2 : (List dTxn)) => ih (i + 1) s2 n hd2 (Nat.lt_of_succ_lt_succ hn)
      simp only [loopK, n82n_b0, n82n_w0, hlt, hz, decide_true, cond_true, and_self, if_true, hy, hw, hnn, Sum.elim_inl, Sum.elim_inr, ih2]

theorem n82n_lz0 {u0} (h0 : u0.length < 9223372036854775807) {K : q5T → Option Res} {s2 : (List dTxn)} : loopK n82n_b0 Fuel (u0, (0 : Int), s2) K = n82n_w0 u0 u0 s2 0 (fun z => K (u0, z.1, z.2)) :=
  n82n_lw0 h0 u0 0 s2 Fuel rfl (lwl_fuel h0)

def n82n_t (a0 : (List dTxn)) (k : (List dTxn) → Option Res) : Option Res :=
  n82n_w0 a0 a0 ([] : List dTxn) 0 (fun z23 =>
    k z23.2)

theorem n82n_r {a0 : (List dTxn)} (h0 : a0.length < 9223372036854775807) {k : (List dTxn) → Option Res} : n82n_k a0 k = n82n_t a0 k := by
  rw [n82n_e]
  simp only [n82n_d, n82n_t, (n82n_lz0 h0), Sum.elim_inl, Sum.elim_inr]

def n70n_w0 (u0 : Int) (u1 : Int) (u3 : (List dVersion)) (u4 : (List dTxn)) (u5 : (List dTxn)) (u6 : Int) (u7 : Int) (u8 : (List dTxn)) : List dTxn → Nat → (((Int × Int) ⊕ Int) → Option Res) → Option Res
  | [], i, k =>
    k (.inr (i : Int))
  | y :: l, i, k =>
    bif (y.1 == u0) then
      k (.inl ((i : Int), (i : Int)))
    else
      n70n_w0 u0 u1 u3 u4 u5 u6 u7 u8 l (i + 1) k

theorem n70n_lw0 {u0} {u1} {u3} {u4} {u5} {u6} {u7} {u8} (h0 : u8.length < 9223372036854775807) {K : (q38T ⊕ q38T) → Option Res} : ∀ (l : List dTxn) (i : Nat)  (n : Nat), u8.drop i = l → l.length < n → loopK n70n_b0 n (u0, u1, (i : Int), u3, u4, u5, u6, u7, u8) K = n70n_w0 u0 u1 u3 u4 u5 u6 u7 u8 l  i (Sum.elim (fun z => K (.inl (u0, z.1, z.2, u3, u4, u5, u6, u7, u8))) (fun z => K (.inr (u0, u1, z, u3, u4, u5, u6, u7, u8)))) := by
  intro l
  induction l with
  | nil =>
    intro i  n hd hn
    have hge := lwl_nil hd
    cases n with
    | zero => exact absurd hn (Nat.not_lt_zero _)
    | succ n => simp only [loopK, n70n_b0, n70n_w0, hge, decide_false, cond_false, Sum.elim_inr, Sum.elim_inl]
  | cons y l ih =>
    intro i  n hd hn
    obtain ⟨hlt, hz, hd2, hw, hnn⟩ := lwl_cons hd h0
    have hy := lwl_get hd
    cases n with
    | zero => exact absurd hn (Nat.not_lt_zero _)
    | succ n =>
      have ih2 := ih (i + 1)  n hd2 (Nat.lt_of_succ_lt_succ hn)
      simp only [loopK, n70n_b0, n70n_w0, hlt, hz, decide_true, cond_true, and_self, if_true, hy, hw, hnn, Sum.elim_inl, Sum.elim_inr, ih2]

theorem n70n_lz0 {u0} {u1} {u3} {u4} {u5} {u6} {u7} {u8} (h0 : u8.length < 9223372036854775807) {K : (q38T ⊕ q38T) → Option Res}  : loopK n70n_b0 Fuel (u0, u1, (0 : Int), u3, u4, u5, u6, u7, u8) K = n70n_w0 u0 u1 u3 u4 u5 u6 u7 u8 u8  0 (Sum.elim (fun z => K (.inl (u0, z.1, z.2, u3, u4, u5, u6, u7, u8))) (fun z => K (.inr (u0, u1, z, u3, u4, u5, u6, u7, u8)))) :=
  n70n_lw0 h0 u8 0  Fuel rfl (lwl_fuel h0)

def n70n_t (a0 : dEngine) (a1 : Int) (k : Int → Option Res) : Option Res :=
  n70n_w0 a1 (0 : Int) a0.1.1 a0.1.2.1 a0.1.2.2.1 a0.1.2.2.2.1 a0.1.2.2.2.2 a0.2 a0.2  0 (Sum.elim (fun z23 =>
    k z23.1) (fun _ =>
    k (-1 : Int)))

theorem n70n_r {a0 : dEngine} {a1 : Int} (h0 : a0.2.length < 9223372036854775807) {k : Int → Option Res} : n70n_k a0 a1 k = n70n_t a0 a1 k := by
  rw [n70n_e]
  simp only [n70n_d, n70n_t, (n70n_lz0 h0), Sum.elim_inl, Sum.elim_inr]

def n69n_w0 (u0 : ByteArray) (u1 : Bool) : List Int → Nat → (((Bool × Int) ⊕ Int) → Option Res) → Option Res
  | [], i, k =>
    k (.inr (i : Int))
  | y :: l, i, k =>
    bif (decide (y < (97 : Int))) then
      k (.inl (false, (i : Int)))
    else
      bif (decide (y > (122 : Int))) then
        k (.inl (false, (i : Int)))
      else
        n69n_w0 u0 u1 l (i + 1) k

theorem n69n_lw0 {u0} {u1} (h0 : u0.size < 9223372036854775807) {K : ((ByteArray × Bool × Int) ⊕ (ByteArray × Bool × Int)) → Option Res} : ∀ (l : List Int) (i : Nat)  (n : Nat), (intsOf u0).drop i = l → l.length < n → loopK n69n_b0 n (u0, u1, (i : Int)) K = n69n_w0 u0 u1 l  i (Sum.elim (fun z => K (.inl (u0, z.1, z.2))) (fun z => K (.inr (u0, u1, z)))) := by
  intro l
  induction l with
  | nil =>
    intro i  n hd hn
    have hge := lws_nil hd
    cases n with
    | zero => exact absurd hn (Nat.not_lt_zero _)
    | succ n => simp only [loopK, n69n_b0, n69n_w0, hge, decide_false, cond_false, Sum.elim_inr, Sum.elim_inl]
  | cons y l ih =>
    intro i  n hd hn
    obtain ⟨hlt, hz, hd2, hw, hnn⟩ := lws_cons hd h0
    have hy := lws_get hd
    cases n with
    | zero => exact absurd hn (Nat.not_lt_zero _)
    | succ n =>
      have ih2 := ih (i + 1)  n hd2 (Nat.lt_of_succ_lt_succ hn)
      simp only [loopK, n69n_b0, n69n_w0, hlt, hz, decide_true, cond_true, and_self, if_true, hy, hw, hnn, Sum.elim_inl, Sum.elim_inr, ih2]

theorem n69n_lz0 {u0} {u1} (h0 : u0.size < 9223372036854775807) {K : ((ByteArray × Bool × Int) ⊕ (ByteArray × Bool × Int)) → Option Res}  : loopK n69n_b0 Fuel (u0, u1, (0 : Int)) K = n69n_w0 u0 u1 (intsOf u0)  0 (Sum.elim (fun z => K (.inl (u0, z.1, z.2))) (fun z => K (.inr (u0, u1, z)))) :=
  n69n_lw0 h0 (intsOf u0) 0  Fuel rfl (lws_fuel h0)

def n69n_t (a0 : ByteArray) (k : Bool → Option Res) : Option Res :=
  n69n_w0 a0 false (intsOf a0)  0 (Sum.elim (fun z23 =>
    k z23.1) (fun _ =>
    n78n_k (a0.size : Int) (1 : Int) (3 : Int) (fun y25 =>
      k y25)))

theorem n69n_r {a0 : ByteArray} (h0 : a0.size < 9223372036854775807) {k : Bool → Option Res} : n69n_k a0 k = n69n_t a0 k := by
  rw [n69n_e]
  simp only [n69n_d, n69n_t, (n69n_lz0 h0), Sum.elim_inl, Sum.elim_inr]

def n77n_w0 (u0 : (List dWrite)) (u1 : Bool) : List dWrite → Nat → (((Bool × Int) ⊕ Int) → Option Res) → Option Res
  | [], i, k =>
    k (.inr (i : Int))
  | y :: l, i, k =>
    n76n_k y (fun y1 =>
      bif (!y1) then
        k (.inl (false, (i : Int)))
      else
        bif (decide ((i : Int) > (0 : Int))) then
          if 0 ≤ (IntKind.wrap .i64 ((i : Int) - (1 : Int))) ∧ (IntKind.wrap .i64 ((i : Int) - (1 : Int))) < (u0.length : Int) then
            bif (!(strLess ((rd (Ty.zero tWrite) u0 (IntKind.wrap .i64 ((i : Int) - (1 : Int)))).1) (y.1))) then
              k (.inl (false, (i : Int)))
            else
              n77n_w0 u0 u1 l (i + 1) k
          else none
        else
          n77n_w0 u0 u1 l (i + 1) k)

theorem n77n_lw0 {u0} {u1} (h0 : u0.length < 9223372036854775807) {K : (((List dWrite) × Bool × Int) ⊕ ((List dWrite) × Bool × Int)) → Option Res} : ∀ (l : List dWrite) (i : Nat)  (n : Nat), u0.drop i = l → l.length < n → loopK n77n_b0 n (u0, u1, (i : Int)) K = n77n_w0 u0 u1 l  i (Sum.elim (fun z => K (.inl (u0, z.1, z.2))) (fun z => K (.inr (u0, u1, z)))) := by
  intro l
  induction l with
  | nil =>
    intro i  n hd hn
    have hge := lwl_nil hd
    cases n with
    | zero => exact absurd hn (Nat.not_lt_zero _)
    | succ n => simp only [loopK, n77n_b0, n77n_w0, hge, decide_false, cond_false, Sum.elim_inr, Sum.elim_inl]
  | cons y l ih =>
    intro i  n hd hn
    obtain ⟨hlt, hz, hd2, hw, hnn⟩ := lwl_cons hd h0
    have hy := lwl_get hd
    cases n with
    | zero => exact absurd hn (Nat.not_lt_zero _)
    | succ n =>
      have ih2 := ih (i + 1)  n hd2 (Nat.lt_of_succ_lt_succ hn)
      simp only [loopK, n77n_b0, n77n_w0, hlt, hz, decide_true, cond_true, and_self, if_true, hy, hw, hnn, Sum.elim_inl, Sum.elim_inr, ih2]

theorem n77n_lz0 {u0} {u1} (h0 : u0.length < 9223372036854775807) {K : (((List dWrite) × Bool × Int) ⊕ ((List dWrite) × Bool × Int)) → Option Res}  : loopK n77n_b0 Fuel (u0, u1, (0 : Int)) K = n77n_w0 u0 u1 u0  0 (Sum.elim (fun z => K (.inl (u0, z.1, z.2))) (fun z => K (.inr (u0, u1, z)))) :=
  n77n_lw0 h0 u0 0  Fuel rfl (lwl_fuel h0)

def n77n_t (a0 : (List dWrite)) (k : Bool → Option Res) : Option Res :=
  n77n_w0 a0 false a0  0 (Sum.elim (fun z23 =>
    k z23.1) (fun _ =>
    k (decide ((a0.length : Int) ≤ (8 : Int)))))

theorem n77n_r {a0 : (List dWrite)} (h0 : a0.length < 9223372036854775807) {k : Bool → Option Res} : n77n_k a0 k = n77n_t a0 k := by
  rw [n77n_e]
  simp only [n77n_d, n77n_t, (n77n_lz0 h0), Sum.elim_inl, Sum.elim_inr]

def n75n_wj5000012 (u0 : Bool) (u1 : Int) (u2 : Int) (u3 : Int) (u4 : Int) (u5 : (List dRange)) (u6 : (List dWrite)) (u7 : Bool) (u8 : ByteArray) (k : Bool → Option Res) : Option Res :=
    bif (u2 != (1 : Int)) then
      k true
    else
      k (!u7)

theorem n75n_wz5000012 {u0} {u1} {u2} {u3} {u4} {u5} {u6} {u7} {u8}  {K : q26T → Option Res} : n75n_j5000012 (u0, u1, u2, u3, u4, u5, u6, u7, u8) K = n75n_wj5000012 u0 u1 u2 u3 u4 u5 u6 u7 u8 (fun z => K (z, u1, u2, u3, u4, u5, u6, u7, u8)) := by
  simp only [n75n_j5000012, n75n_wj5000012, Sum.elim_inl, Sum.elim_inr]

def n75n_wj5000010 (u0 : Bool) (u1 : Int) (u2 : Int) (u3 : Int) (u4 : Int) (u5 : (List dRange)) (u6 : (List dWrite)) (u7 : Bool) (u8 : ByteArray) (k : Bool → Option Res) : Option Res :=
    bif (u2 == (2 : Int)) then
      n69n_k u8 (fun y1 =>
        bif (!y1) then
          k false
        else
          bif (u2 != (2 : Int)) then
            bif (!(strEq u8 (⟨#[]⟩ : ByteArray))) then
              k false
            else
              n75n_wj5000012 u0 u1 u2 u3 u4 u5 u6 u7 u8 (fun z2 =>
                k z2)
          else
            n75n_wj5000012 u0 u1 u2 u3 u4 u5 u6 u7 u8 (fun z3 =>
              k z3))
    else
      bif (u2 != (2 : Int)) then
        bif (!(strEq u8 (⟨#[]⟩ : ByteArray))) then
          k false
        else
          n75n_wj5000012 u0 u1 u2 u3 u4 u5 u6 u7 u8 (fun z4 =>
            k z4)
      else
        n75n_wj5000012 u0 u1 u2 u3 u4 u5 u6 u7 u8 (fun z5 =>
          k z5)

theorem n75n_wz5000010 {u0} {u1} {u2} {u3} {u4} {u5} {u6} {u7} {u8}  {K : q26T → Option Res} : n75n_j5000010 (u0, u1, u2, u3, u4, u5, u6, u7, u8) K = n75n_wj5000010 u0 u1 u2 u3 u4 u5 u6 u7 u8 (fun z => K (z, u1, u2, u3, u4, u5, u6, u7, u8)) := by
  simp only [n75n_j5000010, n75n_wj5000010, n75n_wz5000012, Sum.elim_inl, Sum.elim_inr]

def n75n_w0 (u0 : Bool) (u2 : Int) (u3 : Int) (u4 : Int) (u5 : Int) (u6 : (List dRange)) (u7 : (List dWrite)) (u8 : Bool) (u9 : ByteArray) : List dRange → Nat → (((Bool × Int) ⊕ Int) → Option Res) → Option Res
  | [], i, k =>
    k (.inr (i : Int))
  | y :: l, i, k =>
    n72n_k y (fun y1 =>
      bif (!y1) then
        k (.inl (false, (i : Int)))
      else
        n75n_w0 u0 u2 u3 u4 u5 u6 u7 u8 u9 l (i + 1) k)

theorem n75n_lw0 {u0} {u2} {u3} {u4} {u5} {u6} {u7} {u8} {u9} (h0 : u6.length < 9223372036854775807) {K : (q29T ⊕ q29T) → Option Res} : ∀ (l : List dRange) (i : Nat)  (n : Nat), u6.drop i = l → l.length < n → loopK n75n_b0 n (u0, (i : Int), u2, u3, u4, u5, u6, u7, u8, u9) K = n75n_w0 u0 u2 u3 u4 u5 u6 u7 u8 u9 l  i (Sum.elim (fun z => K (.inl (z.1, z.2, u2, u3, u4, u5, u6, u7, u8, u9))) (fun z => K (.inr (u0, z, u2, u3, u4, u5, u6, u7, u8, u9)))) := by
  intro l
  induction l with
  | nil =>
    intro i  n hd hn
    have hge := lwl_nil hd
    cases n with
    | zero => exact absurd hn (Nat.not_lt_zero _)
    | succ n => simp only [loopK, n75n_b0, n75n_w0, hge, decide_false, cond_false, Sum.elim_inr, Sum.elim_inl]
  | cons y l ih =>
    intro i  n hd hn
    obtain ⟨hlt, hz, hd2, hw, hnn⟩ := lwl_cons hd h0
    have hy := lwl_get hd
    cases n with
    | zero => exact absurd hn (Nat.not_lt_zero _)
    | succ n =>
      have ih2 := ih (i + 1)  n hd2 (Nat.lt_of_succ_lt_succ hn)
      simp only [loopK, n75n_b0, n75n_w0, hlt, hz, decide_true, cond_true, and_self, if_true, hy, hw, hnn, Sum.elim_inl, Sum.elim_inr, ih2]

theorem n75n_lz0 {u0} {u2} {u3} {u4} {u5} {u6} {u7} {u8} {u9} (h0 : u6.length < 9223372036854775807) {K : (q29T ⊕ q29T) → Option Res}  : loopK n75n_b0 Fuel (u0, (0 : Int), u2, u3, u4, u5, u6, u7, u8, u9) K = n75n_w0 u0 u2 u3 u4 u5 u6 u7 u8 u9 u6  0 (Sum.elim (fun z => K (.inl (z.1, z.2, u2, u3, u4, u5, u6, u7, u8, u9))) (fun z => K (.inr (u0, z, u2, u3, u4, u5, u6, u7, u8, u9)))) :=
  n75n_lw0 h0 u6 0  Fuel rfl (lwl_fuel h0)

def n75n_wj5000003 (u0 : Bool) (u1 : Int) (u2 : Int) (u3 : Int) (u4 : Int) (u5 : (List dRange)) (u6 : (List dWrite)) (u7 : Bool) (u8 : ByteArray) (k : Bool → Option Res) : Option Res :=
    n75n_w0 u0 u1 u2 u3 u4 u5 u6 u7 u8 u5  0 (Sum.elim (fun z1 =>
      k z1.1) (fun _ =>
      bif (u2 == (3 : Int)) then
        n78n_k u4 (IntKind.wrap .i64 (u3 + (1 : Int))) (9999 : Int) (fun y3 =>
          bif (!y3) then
            k false
          else
            bif (u2 != (3 : Int)) then
              bif (u4 != (0 : Int)) then
                k false
              else
                n75n_wj5000010 u0 u1 u2 u3 u4 u5 u6 u7 u8 (fun z4 =>
                  k z4)
            else
              n75n_wj5000010 u0 u1 u2 u3 u4 u5 u6 u7 u8 (fun z5 =>
                k z5))
      else
        bif (u2 != (3 : Int)) then
          bif (u4 != (0 : Int)) then
            k false
          else
            n75n_wj5000010 u0 u1 u2 u3 u4 u5 u6 u7 u8 (fun z6 =>
              k z6)
        else
          n75n_wj5000010 u0 u1 u2 u3 u4 u5 u6 u7 u8 (fun z7 =>
            k z7)))

theorem n75n_wz5000003 {u0} {u1} {u2} {u3} {u4} {u5} {u6} {u7} {u8} (h0 : u5.length < 9223372036854775807) {K : q26T → Option Res} : n75n_j5000003 (u0, u1, u2, u3, u4, u5, u6, u7, u8) K = n75n_wj5000003 u0 u1 u2 u3 u4 u5 u6 u7 u8 (fun z => K (z, u1, u2, u3, u4, u5, u6, u7, u8)) := by
  simp only [n75n_j5000003, n75n_wj5000003, n75n_wz5000010, (n75n_lz0 h0), Sum.elim_inl, Sum.elim_inr]

def n75n_t (a0 : dTxn) (k : Bool → Option Res) : Option Res :=
  n78n_k a0.1 (1 : Int) (9999 : Int) (fun y23 =>
    bif (!y23) then
      k false
    else
      n78n_k a0.2.1 (1 : Int) (3 : Int) (fun y24 =>
        bif (!y24) then
          k false
        else
          n78n_k a0.2.2.1 (0 : Int) (9999 : Int) (fun y25 =>
            bif (!y25) then
              k false
            else
              bif (decide ((a0.2.2.2.2.1.length : Int) > (8 : Int))) then
                k false
              else
                n77n_k a0.2.2.2.2.2.1 (fun y26 =>
                  bif (!y26) then
                    k false
                  else
                    n75n_wj5000003 false a0.1 a0.2.1 a0.2.2.1 a0.2.2.2.1 a0.2.2.2.2.1 a0.2.2.2.2.2.1 a0.2.2.2.2.2.2.1 a0.2.2.2.2.2.2.2 (fun z27 =>
                      k z27)))))

theorem n75n_r {a0 : dTxn} (h0 : a0.2.2.2.2.1.length < 9223372036854775807) {k : Bool → Option Res} : n75n_k a0 k = n75n_t a0 k := by
  rw [n75n_e]
  simp only [n75n_d, n75n_t, (n75n_wz5000003 h0), Sum.elim_inl, Sum.elim_inr]

def n73n_w0 (u0 : Bool) (u2 : Int) (u3 : Int) (u4 : Int) (u5 : Int) (u6 : (List dRange)) (u7 : (List dWrite)) (u8 : Bool) (u9 : ByteArray) (u10 : ByteArray) (u11 : ByteArray) (u12 : Int) (u13 : Int) (u14 : Int) (u15 : Int) (u16 : Bool) (u17 : ByteArray) (u18 : Int) (u19 : Int) (u20 : Int) (u21 : Int) (u22 : Bool) (u23 : ByteArray) (u24 : (List dRange)) (u25 : (List dWrite)) (u26 : (List dRange)) (u27 : (List dWrite)) : List dRange → Nat → ((Int ⊕ (Bool × Int)) → Option Res) → Option Res
  | [], i, k =>
    k (.inl (i : Int))
  | y :: l, i, k =>
    bif (Ty.eqB tRange y (u10, u11)) then
      k (.inr (true, (i : Int)))
    else
      n73n_w0 u0 u2 u3 u4 u5 u6 u7 u8 u9 u10 u11 u12 u13 u14 u15 u16 u17 u18 u19 u20 u21 u22 u23 u24 u25 u26 u27 l (i + 1) k

theorem n73n_lw0 {u0} {u2} {u3} {u4} {u5} {u6} {u7} {u8} {u9} {u10} {u11} {u12} {u13} {u14} {u15} {u16} {u17} {u18} {u19} {u20} {u21} {u22} {u23} {u24} {u25} {u26} {u27} (h0 : u6.length < 9223372036854775807) {K : (q27T ⊕ q28T) → Option Res} : ∀ (l : List dRange) (i : Nat)  (n : Nat), u6.drop i = l → l.length < n → loopK n73n_b0 n (u0, (i : Int), u2, u3, u4, u5, u6, u7, u8, u9, u10, u11, u12, u13, u14, u15, u16, u17, u18, u19, u20, u21, u22, u23, u24, u25, u26, u27) K = n73n_w0 u0 u2 u3 u4 u5 u6 u7 u8 u9 u10 u11 u12 u13 u14 u15 u16 u17 u18 u19 u20 u21 u22 u23 u24 u25 u26 u27 l  i (Sum.elim (fun z => K (.inl (u0, z, u2, u3, u4, u5, u6, u7, u8, u9, u10, u11, u12, u13, u14, u15, u16, u17, u18, u19, u20, u21, u22, u23, u24, u25, u26, u27))) (fun z => K (.inr (z.1, z.2, u2, u3, u4, u5, u6, u7, u8, u9, u10, u11, u18, u19, u20, u21, u22, u23, u18, u19, u20, u21, u22, u23, u26, u27)))) := by
  intro l
  induction l with
  | nil =>
    intro i  n hd hn
    have hge := lwl_nil hd
    cases n with
    | zero => exact absurd hn (Nat.not_lt_zero _)
    | succ n => simp only [loopK, n73n_b0, n73n_w0, hge, decide_false, cond_false, Sum.elim_inr, Sum.elim_inl]
  | cons y l ih =>
    intro i  n hd hn
    obtain ⟨hlt, hz, hd2, hw, hnn⟩ := lwl_cons hd h0
    have hy := lwl_get hd
    cases n with
    | zero => exact absurd hn (Nat.not_lt_zero _)
    | succ n =>
      have ih2 := ih (i + 1)  n hd2 (Nat.lt_of_succ_lt_succ hn)
      simp only [loopK, n73n_b0, n73n_w0, hlt, hz, decide_true, cond_true, and_self, if_true, hy, hw, hnn, Sum.elim_inl, Sum.elim_inr, ih2]

theorem n73n_lz0 {u0} {u2} {u3} {u4} {u5} {u6} {u7} {u8} {u9} {u10} {u11} {u12} {u13} {u14} {u15} {u16} {u17} {u18} {u19} {u20} {u21} {u22} {u23} {u24} {u25} {u26} {u27} (h0 : u6.length < 9223372036854775807) {K : (q27T ⊕ q28T) → Option Res}  : loopK n73n_b0 Fuel (u0, (0 : Int), u2, u3, u4, u5, u6, u7, u8, u9, u10, u11, u12, u13, u14, u15, u16, u17, u18, u19, u20, u21, u22, u23, u24, u25, u26, u27) K = n73n_w0 u0 u2 u3 u4 u5 u6 u7 u8 u9 u10 u11 u12 u13 u14 u15 u16 u17 u18 u19 u20 u21 u22 u23 u24 u25 u26 u27 u6  0 (Sum.elim (fun z => K (.inl (u0, z, u2, u3, u4, u5, u6, u7, u8, u9, u10, u11, u12, u13, u14, u15, u16, u17, u18, u19, u20, u21, u22, u23, u24, u25, u26, u27))) (fun z => K (.inr (z.1, z.2, u2, u3, u4, u5, u6, u7, u8, u9, u10, u11, u18, u19, u20, u21, u22, u23, u18, u19, u20, u21, u22, u23, u26, u27)))) :=
  n73n_lw0 h0 u6 0  Fuel rfl (lwl_fuel h0)

def n73n_wj5000004 (u0 : Bool) (u1 : Int) (u2 : Int) (u3 : Int) (u4 : Int) (u5 : (List dRange)) (u6 : (List dWrite)) (u7 : Bool) (u8 : ByteArray) (u9 : ByteArray) (u10 : ByteArray) (u11 : Int) (u12 : Int) (u13 : Int) (u14 : Int) (u15 : Bool) (u16 : ByteArray) (u17 : Int) (u18 : Int) (u19 : Int) (u20 : Int) (u21 : Bool) (u22 : ByteArray) (u23 : (List dRange)) (u24 : (List dWrite)) (u25 : (List dRange)) (u26 : (List dWrite)) (k : (Bool × (List dRange)) → Option Res) : Option Res :=
    n73n_w0 u0 u1 u2 u3 u4 u5 u6 u7 u8 u9 u10 u11 u12 u13 u14 u15 u16 u17 u18 u19 u20 u21 u22 u23 u24 u25 u26 u5  0 (Sum.elim (fun _ =>
      bif (decide ((u5.length : Int) ≥ (8 : Int))) then
        k (false, u25)
      else
        if u25.length + [(u9, u10)].length ≤ VE.maxLen then
          k (true, (u25 ++ [(u9, u10)]))
        else none) (fun z2 =>
      k (z2.1, u25)))

theorem n73n_wz5000004 {u0} {u1} {u2} {u3} {u4} {u5} {u6} {u7} {u8} {u9} {u10} {u11} {u12} {u13} {u14} {u15} {u16} {u17} {u18} {u19} {u20} {u21} {u22} {u23} {u24} {u25} {u26} (h0 : u5.length < 9223372036854775807) {K : q25T → Option Res} : n73n_j5000004 (u0, u1, u2, u3, u4, u5, u6, u7, u8, u9, u10, u11, u12, u13, u14, u15, u16, u17, u18, u19, u20, u21, u22, u23, u24, u25, u26) K = n73n_wj5000004 u0 u1 u2 u3 u4 u5 u6 u7 u8 u9 u10 u11 u12 u13 u14 u15 u16 u17 u18 u19 u20 u21 u22 u23 u24 u25 u26 (fun z => K (z.1, u1, u2, u3, u4, u5, u6, u7, u8, u9, u10, u17, u18, u19, u20, u21, u22, u17, u18, u19, u20, u21, u22, z.2, u26)) := by
  simp only [n73n_j5000004, n73n_wj5000004, (n73n_lz0 h0), Sum.elim_inl, Sum.elim_inr]

def n73n_t (a0 : dTxn) (a1 : dRange) (k : q41T → Option Res) : Option Res :=
  n80n_k a0 (fun y23 =>
    n75n_k a0 (fun y24 =>
      bif (!y24) then
        k (y23.1, y23.2.1, y23.2.2.1, y23.2.2.2.1, y23.2.2.2.2.1, y23.2.2.2.2.2.1, false, y23.2.2.2.2.2.2.1, y23.2.2.2.2.2.2.2)
      else
        bif (a0.2.1 != (1 : Int)) then
          k (y23.1, y23.2.1, y23.2.2.1, y23.2.2.2.1, y23.2.2.2.2.1, y23.2.2.2.2.2.1, false, y23.2.2.2.2.2.2.1, y23.2.2.2.2.2.2.2)
        else
          n72n_k a1 (fun y25 =>
            bif (!y25) then
              k (y23.1, y23.2.1, y23.2.2.1, y23.2.2.2.1, y23.2.2.2.2.1, y23.2.2.2.2.2.1, false, y23.2.2.2.2.2.2.1, y23.2.2.2.2.2.2.2)
            else
              n73n_wj5000004 false a0.1 a0.2.1 a0.2.2.1 a0.2.2.2.1 a0.2.2.2.2.1 a0.2.2.2.2.2.1 a0.2.2.2.2.2.2.1 a0.2.2.2.2.2.2.2 a1.1 a1.2 (0 : Int) (0 : Int) (0 : Int) (0 : Int) false (⟨#[]⟩ : ByteArray) y23.1 y23.2.1 y23.2.2.1 y23.2.2.2.1 y23.2.2.2.2.1 y23.2.2.2.2.2.1 ([] : List dRange) ([] : List dWrite) y23.2.2.2.2.2.2.1 y23.2.2.2.2.2.2.2 (fun z26 =>
                k (y23.1, y23.2.1, y23.2.2.1, y23.2.2.2.1, y23.2.2.2.2.1, y23.2.2.2.2.2.1, z26.1, z26.2, y23.2.2.2.2.2.2.2)))))

theorem n73n_r {a0 : dTxn} {a1 : dRange} (h0 : a0.2.2.2.2.1.length < 9223372036854775807) {k : q41T → Option Res} : n73n_k a0 a1 k = n73n_t a0 a1 k := by
  rw [n73n_e]
  simp only [n73n_d, n73n_t, (n73n_wz5000004 h0), Sum.elim_inl, Sum.elim_inr]

def n79n_w0 (u0 : (List dVersion)) (u1 : ByteArray) (u2 : Int) : List dVersion → Int → Nat → ((Int × Int) → Option Res) → Option Res
  | [], s3, i, k =>
    k (s3, (i : Int))
  | y :: l, s3, i, k =>
    bif (strEq (y.1) u1) then
      bif (decide (y.2.2.2 ≤ u2)) then
        bif (decide (s3 < (0 : Int))) then
          n79n_w0 u0 u1 u2 l (i : Int) (i + 1) k
        else
          if 0 ≤ s3 ∧ s3 < (u0.length : Int) then
            bif (decide (y.2.2.2 > (rd (Ty.zero tVersion) u0 s3).2.2.2)) then
              n79n_w0 u0 u1 u2 l (i : Int) (i + 1) k
            else
              n79n_w0 u0 u1 u2 l s3 (i + 1) k
          else none
      else
        n79n_w0 u0 u1 u2 l s3 (i + 1) k
    else
      n79n_w0 u0 u1 u2 l s3 (i + 1) k

theorem n79n_lw0 {u0} {u1} {u2} (h0 : u0.length < 9223372036854775807) {K : q12T → Option Res} : ∀ (l : List dVersion) (i : Nat) (s3 : Int) (n : Nat), u0.drop i = l → l.length < n → loopK n79n_b0 n (u0, u1, u2, s3, (i : Int)) K = n79n_w0 u0 u1 u2 l s3 i (fun z => K (u0, u1, u2, z.1, z.2)) := by
  intro l
  induction l with
  | nil =>
    intro i s3 n hd hn
    have hge := lwl_nil hd
    cases n with
    | zero => exact absurd hn (Nat.not_lt_zero _)
    | succ n => simp only [loopK, n79n_b0, n79n_w0, hge, decide_false, cond_false, Sum.elim_inr, Sum.elim_inl]
  | cons y l ih =>
    intro i s3 n hd hn
    obtain ⟨hlt, hz, hd2, hw, hnn⟩ := lwl_cons hd h0
    have hy := lwl_get hd
    cases n with
    | zero => exact absurd hn (Nat.not_lt_zero _)
    | succ n =>
      have ih2 := fun (s3 : Int) => ih (i + 1) s3 n hd2 (Nat.lt_of_succ_lt_succ hn)
      simp only [loopK, n79n_b0, n79n_w0, hlt, hz, decide_true, cond_true, and_self, if_true, hy, hw, hnn, Sum.elim_inl, Sum.elim_inr, ih2]

theorem n79n_lz0 {u0} {u1} {u2} (h0 : u0.length < 9223372036854775807) {K : q12T → Option Res} {s3 : Int} : loopK n79n_b0 Fuel (u0, u1, u2, s3, (0 : Int)) K = n79n_w0 u0 u1 u2 u0 s3 0 (fun z => K (u0, u1, u2, z.1, z.2)) :=
  n79n_lw0 h0 u0 0 s3 Fuel rfl (lwl_fuel h0)

def n79n_t (a0 : (List dVersion)) (a1 : ByteArray) (a2 : Int) (k : Int → Option Res) : Option Res :=
  n79n_w0 a0 a1 a2 a0 (-1 : Int) 0 (fun z23 =>
    k z23.1)

theorem n79n_r {a0 : (List dVersion)} {a1 : ByteArray} {a2 : Int} (h0 : a0.length < 9223372036854775807) {k : Int → Option Res} : n79n_k a0 a1 a2 k = n79n_t a0 a1 a2 k := by
  rw [n79n_e]
  simp only [n79n_d, n79n_t, (n79n_lz0 h0), Sum.elim_inl, Sum.elim_inr]

def n71n_w0 (u0 : (List dVersion)) (u1 : ByteArray) (u2 : ByteArray) (u3 : Bool) (u5 : Int) (u6 : Int) (u7 : Int) (u8 : Int) (u9 : (List dRange)) (u10 : (List dWrite)) (u11 : Bool) (u12 : ByteArray) : List dWrite → Nat → (((ByteArray × Bool × Int) ⊕ Int) → Option Res) → Option Res
  | [], i, k =>
    k (.inr (i : Int))
  | y :: l, i, k =>
    bif (strEq (y.1) u1) then
      bif y.2.2 then
        k (.inl ((⟨#[]⟩ : ByteArray), false, (i : Int)))
      else
        k (.inl (y.2.1, true, (i : Int)))
    else
      n71n_w0 u0 u1 u2 u3 u5 u6 u7 u8 u9 u10 u11 u12 l (i + 1) k

theorem n71n_lw0 {u0} {u1} {u2} {u3} {u5} {u6} {u7} {u8} {u9} {u10} {u11} {u12} (h0 : u10.length < 9223372036854775807) {K : (q10T ⊕ q10T) → Option Res} : ∀ (l : List dWrite) (i : Nat)  (n : Nat), u10.drop i = l → l.length < n → loopK n71n_b0 n (u0, u1, u2, u3, (i : Int), u5, u6, u7, u8, u9, u10, u11, u12) K = n71n_w0 u0 u1 u2 u3 u5 u6 u7 u8 u9 u10 u11 u12 l  i (Sum.elim (fun z => K (.inl (u0, u1, z.1, z.2.1, z.2.2, u5, u6, u7, u8, u9, u10, u11, u12))) (fun z => K (.inr (u0, u1, u2, u3, z, u5, u6, u7, u8, u9, u10, u11, u12)))) := by
  intro l
  induction l with
  | nil =>
    intro i  n hd hn
    have hge := lwl_nil hd
    cases n with
    | zero => exact absurd hn (Nat.not_lt_zero _)
    | succ n => simp only [loopK, n71n_b0, n71n_w0, hge, decide_false, cond_false, Sum.elim_inr, Sum.elim_inl]
  | cons y l ih =>
    intro i  n hd hn
    obtain ⟨hlt, hz, hd2, hw, hnn⟩ := lwl_cons hd h0
    have hy := lwl_get hd
    cases n with
    | zero => exact absurd hn (Nat.not_lt_zero _)
    | succ n =>
      have ih2 := ih (i + 1)  n hd2 (Nat.lt_of_succ_lt_succ hn)
      simp only [loopK, n71n_b0, n71n_w0, hlt, hz, decide_true, cond_true, and_self, if_true, hy, hw, hnn, Sum.elim_inl, Sum.elim_inr, ih2]

theorem n71n_lz0 {u0} {u1} {u2} {u3} {u5} {u6} {u7} {u8} {u9} {u10} {u11} {u12} (h0 : u10.length < 9223372036854775807) {K : (q10T ⊕ q10T) → Option Res}  : loopK n71n_b0 Fuel (u0, u1, u2, u3, (0 : Int), u5, u6, u7, u8, u9, u10, u11, u12) K = n71n_w0 u0 u1 u2 u3 u5 u6 u7 u8 u9 u10 u11 u12 u10  0 (Sum.elim (fun z => K (.inl (u0, u1, z.1, z.2.1, z.2.2, u5, u6, u7, u8, u9, u10, u11, u12))) (fun z => K (.inr (u0, u1, u2, u3, z, u5, u6, u7, u8, u9, u10, u11, u12)))) :=
  n71n_lw0 h0 u10 0  Fuel rfl (lwl_fuel h0)

def n71n_t (a0 : dTxn) (a1 : (List dVersion)) (a2 : ByteArray) (k : (ByteArray × Bool) → Option Res) : Option Res :=
  n71n_w0 a1 a2 (⟨#[]⟩ : ByteArray) false a0.1 a0.2.1 a0.2.2.1 a0.2.2.2.1 a0.2.2.2.2.1 a0.2.2.2.2.2.1 a0.2.2.2.2.2.2.1 a0.2.2.2.2.2.2.2 a0.2.2.2.2.2.1  0 (Sum.elim (fun z23 =>
    k (z23.1, z23.2.1)) (fun _ =>
    n74n_k a1 a2 a0.2.2.1 (fun y25 =>
      k (y25.1, y25.2))))

theorem n71n_r {a0 : dTxn} {a1 : (List dVersion)} {a2 : ByteArray} (h0 : a0.2.2.2.2.2.1.length < 9223372036854775807) {k : (ByteArray × Bool) → Option Res} : n71n_k a0 a1 a2 k = n71n_t a0 a1 a2 k := by
  rw [n71n_e]
  simp only [n71n_d, n71n_t, (n71n_lz0 h0), Sum.elim_inl, Sum.elim_inr]

def n01n_w0 (u0 : ByteArray) (u1 : Bool) : List Int → Nat → (((Bool × Int) ⊕ Int) → Option Res) → Option Res
  | [], i, k =>
    k (.inr (i : Int))
  | y :: l, i, k =>
    bif (decide (y < (97 : Int))) then
      k (.inl (false, (i : Int)))
    else
      bif (decide (y > (122 : Int))) then
        k (.inl (false, (i : Int)))
      else
        n01n_w0 u0 u1 l (i + 1) k

theorem n01n_lw0 {u0} {u1} (h0 : u0.size < 9223372036854775807) {K : ((ByteArray × Bool × Int) ⊕ (ByteArray × Bool × Int)) → Option Res} : ∀ (l : List Int) (i : Nat)  (n : Nat), (intsOf u0).drop i = l → l.length < n → loopK n01n_b0 n (u0, u1, (i : Int)) K = n01n_w0 u0 u1 l  i (Sum.elim (fun z => K (.inl (u0, z.1, z.2))) (fun z => K (.inr (u0, u1, z)))) := by
  intro l
  induction l with
  | nil =>
    intro i  n hd hn
    have hge := lws_nil hd
    cases n with
    | zero => exact absurd hn (Nat.not_lt_zero _)
    | succ n => simp only [loopK, n01n_b0, n01n_w0, hge, decide_false, cond_false, Sum.elim_inr, Sum.elim_inl]
  | cons y l ih =>
    intro i  n hd hn
    obtain ⟨hlt, hz, hd2, hw, hnn⟩ := lws_cons hd h0
    have hy := lws_get hd
    cases n with
    | zero => exact absurd hn (Nat.not_lt_zero _)
    | succ n =>
      have ih2 := ih (i + 1)  n hd2 (Nat.lt_of_succ_lt_succ hn)
      simp only [loopK, n01n_b0, n01n_w0, hlt, hz, decide_true, cond_true, and_self, if_true, hy, hw, hnn, Sum.elim_inl, Sum.elim_inr, ih2]

theorem n01n_lz0 {u0} {u1} (h0 : u0.size < 9223372036854775807) {K : ((ByteArray × Bool × Int) ⊕ (ByteArray × Bool × Int)) → Option Res}  : loopK n01n_b0 Fuel (u0, u1, (0 : Int)) K = n01n_w0 u0 u1 (intsOf u0)  0 (Sum.elim (fun z => K (.inl (u0, z.1, z.2))) (fun z => K (.inr (u0, u1, z)))) :=
  n01n_lw0 h0 (intsOf u0) 0  Fuel rfl (lws_fuel h0)

def n01n_t (a0 : ByteArray) (k : Bool → Option Res) : Option Res :=
  n01n_w0 a0 false (intsOf a0)  0 (Sum.elim (fun z23 =>
    k z23.1) (fun _ =>
    n19n_k (a0.size : Int) (1 : Int) (3 : Int) (fun y25 =>
      k y25)))

theorem n01n_r {a0 : ByteArray} (h0 : a0.size < 9223372036854775807) {k : Bool → Option Res} : n01n_k a0 k = n01n_t a0 k := by
  rw [n01n_e]
  simp only [n01n_d, n01n_t, (n01n_lz0 h0), Sum.elim_inl, Sum.elim_inr]

def n14n_w0 (u0 : (List dTxn)) : List dTxn → (List dTxn) → Nat → ((Int × (List dTxn)) → Option Res) → Option Res
  | [], s3, i, k =>
    k ((i : Int), s3)
  | y :: l, s3, i, k =>
    n13n_k y (fun y1 =>
      if s3.length + [(y1.1, (y1.2.1, (y1.2.2.1, (y1.2.2.2.1, (y1.2.2.2.2.2.2.1, (y1.2.2.2.2.2.2.2, (y1.2.2.2.2.1, y1.2.2.2.2.2.1)))))))].length ≤ VE.maxLen then
        n14n_w0 u0 l (s3 ++ [(y1.1, (y1.2.1, (y1.2.2.1, (y1.2.2.2.1, (y1.2.2.2.2.2.2.1, (y1.2.2.2.2.2.2.2, (y1.2.2.2.2.1, y1.2.2.2.2.2.1)))))))]) (i + 1) k
      else none)

theorem n14n_lw0 {u0} (h0 : u0.length < 9223372036854775807) {K : q6T → Option Res} : ∀ (l : List dTxn) (i : Nat) (s3 : (List dTxn)) (n : Nat), u0.drop i = l → l.length < n → loopK n14n_b0 n (u0, (u0.length : Int), (i : Int), s3) K = n14n_w0 u0 l s3 i (fun z => K (u0, (u0.length : Int), z.1, z.2)) := by
  intro l
  induction l with
  | nil =>
    intro i s3 n hd hn
    have hge := lwl_nil hd
    cases n with
    | zero => exact absurd hn (Nat.not_lt_zero _)
    | succ n => simp only [loopK, n14n_b0, n14n_w0, hge, decide_false, cond_false, Sum.elim_inr, Sum.elim_inl]
  | cons y l ih =>
    intro i s3 n hd hn
    obtain ⟨hlt, hz, hd2, hw, hnn⟩ := lwl_cons hd h0
    have hy := lwl_get hd
    cases n with
    | zero => exact absurd hn (Nat.not_lt_zero _)
    | succ n =>
      have ih2 := fun (s3 : (List dTxn)) => ih (i + 1) s3 n hd2 (Nat.lt_of_succ_lt_succ hn)
      simp only [loopK, n14n_b0, n14n_w0, hlt, hz, decide_true, cond_true, and_self, if_true, hy, hw, hnn, Sum.elim_inl, Sum.elim_inr, ih2]

theorem n14n_lz0 {u0} (h0 : u0.length < 9223372036854775807) {K : q6T → Option Res} {s3 : (List dTxn)} : loopK n14n_b0 Fuel (u0, (u0.length : Int), (0 : Int), s3) K = n14n_w0 u0 u0 s3 0 (fun z => K (u0, (u0.length : Int), z.1, z.2)) :=
  n14n_lw0 h0 u0 0 s3 Fuel rfl (lwl_fuel h0)

def n14n_t (a0 : (List dTxn)) (k : (List dTxn) → Option Res) : Option Res :=
  n14n_w0 a0 a0 ([] : List dTxn) 0 (fun z23 =>
    k z23.2)

theorem n14n_r {a0 : (List dTxn)} (h0 : a0.length < 9223372036854775807) {k : (List dTxn) → Option Res} : n14n_k a0 k = n14n_t a0 k := by
  rw [n14n_e]
  simp only [n14n_d, n14n_t, (n14n_lz0 h0), Sum.elim_inl, Sum.elim_inr]

def n65n_w0 (u0 : (List dTxn)) (u1 : Int) : List dTxn → Int → Nat → (((Int × Int × Int) ⊕ (Int × Int)) → Option Res) → Option Res
  | [], s4, i, k =>
    k (.inr ((i : Int), s4))
  | y :: l, s4, i, k =>
    n03n_k y s4 (fun y1 =>
      bif y1.1 then
        k (.inl ((i : Int), (i : Int), y1.2))
      else
        n65n_w0 u0 u1 l y1.2 (i + 1) k)

theorem n65n_lw0 {u0} {u1} (h0 : u0.length < 9223372036854775807) {K : (q7T ⊕ q7T) → Option Res} : ∀ (l : List dTxn) (i : Nat) (s4 : Int) (n : Nat), u0.drop i = l → l.length < n → loopK n65n_b0 n (u0, u1, (u0.length : Int), (i : Int), s4) K = n65n_w0 u0 u1 l s4 i (Sum.elim (fun z => K (.inl (u0, z.1, (u0.length : Int), z.2.1, z.2.2))) (fun z => K (.inr (u0, u1, (u0.length : Int), z.1, z.2)))) := by
  intro l
  induction l with
  | nil =>
    intro i s4 n hd hn
    have hge := lwl_nil hd
    cases n with
    | zero => exact absurd hn (Nat.not_lt_zero _)
    | succ n => simp only [loopK, n65n_b0, n65n_w0, hge, decide_false, cond_false, Sum.elim_inr, Sum.elim_inl]
  | cons y l ih =>
    intro i s4 n hd hn
    obtain ⟨hlt, hz, hd2, hw, hnn⟩ := lwl_cons hd h0
    have hy := lwl_get hd
    cases n with
    | zero => exact absurd hn (Nat.not_lt_zero _)
    | succ n =>
      have ih2 := fun (s4 : Int) => ih (i + 1) s4 n hd2 (Nat.lt_of_succ_lt_succ hn)
      simp only [loopK, n65n_b0, n65n_w0, hlt, hz, decide_true, cond_true, and_self, if_true, hy, hw, hnn, Sum.elim_inl, Sum.elim_inr, ih2]

theorem n65n_lz0 {u0} {u1} (h0 : u0.length < 9223372036854775807) {K : (q7T ⊕ q7T) → Option Res} {s4 : Int} : loopK n65n_b0 Fuel (u0, u1, (u0.length : Int), (0 : Int), s4) K = n65n_w0 u0 u1 u0 s4 0 (Sum.elim (fun z => K (.inl (u0, z.1, (u0.length : Int), z.2.1, z.2.2))) (fun z => K (.inr (u0, u1, (u0.length : Int), z.1, z.2)))) :=
  n65n_lw0 h0 u0 0 s4 Fuel rfl (lwl_fuel h0)

def n65n_t (a0 : (List dTxn)) (a1 : Int) (k : (Int × Int) → Option Res) : Option Res :=
  n65n_w0 a0 (0 : Int) a0 a1 0 (Sum.elim (fun z23 =>
    k (z23.1, z23.2.2)) (fun z24 =>
    k ((-1 : Int), z24.2)))

theorem n65n_r {a0 : (List dTxn)} {a1 : Int} (h0 : a0.length < 9223372036854775807) {k : (Int × Int) → Option Res} : n65n_k a0 a1 k = n65n_t a0 a1 k := by
  rw [n65n_e]
  simp only [n65n_d, n65n_t, (n65n_lz0 h0), Sum.elim_inl, Sum.elim_inr]

def n10n_w0 (u0 : (List dWrite)) (u1 : Bool) (u2 : (List dWrite)) : List dWrite → Nat → (((Bool × Int) ⊕ Int) → Option Res) → Option Res
  | [], i, k =>
    k (.inr (i : Int))
  | y :: l, i, k =>
    n09n_k y (fun y1 =>
      bif (!y1) then
        k (.inl (false, (i : Int)))
      else
        bif (decide ((i : Int) > (0 : Int))) then
          if 0 ≤ (IntKind.wrap .i64 ((i : Int) - (1 : Int))) ∧ (IntKind.wrap .i64 ((i : Int) - (1 : Int))) < (u0.length : Int) then
            bif (!(strLess ((rd (Ty.zero tWrite) u0 (IntKind.wrap .i64 ((i : Int) - (1 : Int)))).1) (y.1))) then
              k (.inl (false, (i : Int)))
            else
              n10n_w0 u0 u1 u2 l (i + 1) k
          else none
        else
          n10n_w0 u0 u1 u2 l (i + 1) k)

theorem n10n_lw0 {u0} {u1} {u2} (h0 : u2.length < 9223372036854775807) {K : (q16T ⊕ q16T) → Option Res} : ∀ (l : List dWrite) (i : Nat)  (n : Nat), u2.drop i = l → l.length < n → loopK n10n_b0 n (u0, u1, u2, (u2.length : Int), (i : Int)) K = n10n_w0 u0 u1 u2 l  i (Sum.elim (fun z => K (.inl (u0, z.1, u2, (u2.length : Int), z.2))) (fun z => K (.inr (u0, u1, u2, (u2.length : Int), z)))) := by
  intro l
  induction l with
  | nil =>
    intro i  n hd hn
    have hge := lwl_nil hd
    cases n with
    | zero => exact absurd hn (Nat.not_lt_zero _)
    | succ n => simp only [loopK, n10n_b0, n10n_w0, hge, decide_false, cond_false, Sum.elim_inr, Sum.elim_inl]
  | cons y l ih =>
    intro i  n hd hn
    obtain ⟨hlt, hz, hd2, hw, hnn⟩ := lwl_cons hd h0
    have hy := lwl_get hd
    cases n with
    | zero => exact absurd hn (Nat.not_lt_zero _)
    | succ n =>
      have ih2 := ih (i + 1)  n hd2 (Nat.lt_of_succ_lt_succ hn)
      simp only [loopK, n10n_b0, n10n_w0, hlt, hz, decide_true, cond_true, and_self, if_true, hy, hw, hnn, Sum.elim_inl, Sum.elim_inr, ih2]

theorem n10n_lz0 {u0} {u1} {u2} (h0 : u2.length < 9223372036854775807) {K : (q16T ⊕ q16T) → Option Res}  : loopK n10n_b0 Fuel (u0, u1, u2, (u2.length : Int), (0 : Int)) K = n10n_w0 u0 u1 u2 u2  0 (Sum.elim (fun z => K (.inl (u0, z.1, u2, (u2.length : Int), z.2))) (fun z => K (.inr (u0, u1, u2, (u2.length : Int), z)))) :=
  n10n_lw0 h0 u2 0  Fuel rfl (lwl_fuel h0)

def n10n_t (a0 : (List dWrite)) (k : Bool → Option Res) : Option Res :=
  n10n_w0 a0 false a0 a0  0 (Sum.elim (fun z23 =>
    k z23.1) (fun _ =>
    k (decide ((a0.length : Int) ≤ (8 : Int)))))

theorem n10n_r {a0 : (List dWrite)} (h0 : a0.length < 9223372036854775807) {k : Bool → Option Res} : n10n_k a0 k = n10n_t a0 k := by
  rw [n10n_e]
  simp only [n10n_d, n10n_t, (n10n_lz0 h0), Sum.elim_inl, Sum.elim_inr]

def n08n_wj5000011 (u0 : Bool) (u1 : Int) (u2 : Int) (u3 : Int) (u4 : Int) (u5 : (List dRange)) (u6 : (List dWrite)) (u7 : Bool) (u8 : ByteArray) (k : Bool → Option Res) : Option Res :=
    bif (u2 == (2 : Int)) then
      n01n_k u8 (fun y1 =>
        bif y1 then
          k true
        else
          bif (u2 != (2 : Int)) then
            k (strEq u8 (⟨#[]⟩ : ByteArray))
          else
            k false)
    else
      bif (u2 != (2 : Int)) then
        k (strEq u8 (⟨#[]⟩ : ByteArray))
      else
        k false

theorem n08n_wz5000011 {u0} {u1} {u2} {u3} {u4} {u5} {u6} {u7} {u8}  {K : q26T → Option Res} : n08n_j5000011 (u0, u1, u2, u3, u4, u5, u6, u7, u8) K = n08n_wj5000011 u0 u1 u2 u3 u4 u5 u6 u7 u8 (fun z => K (z, u1, u2, u3, u4, u5, u6, u7, u8)) := by
  simp only [n08n_j5000011, n08n_wj5000011, Sum.elim_inl, Sum.elim_inr]

def n08n_wj5000009 (u0 : Bool) (u1 : Int) (u2 : Int) (u3 : Int) (u4 : Int) (u5 : (List dRange)) (u6 : (List dWrite)) (u7 : Bool) (u8 : ByteArray) (k : Bool → Option Res) : Option Res :=
    bif (u2 == (3 : Int)) then
      n19n_k u4 (IntKind.wrap .i64 (u3 + (1 : Int))) (9999 : Int) (fun y1 =>
        bif (!y1) then
          k false
        else
          bif (u2 != (3 : Int)) then
            bif (u4 != (0 : Int)) then
              k false
            else
              n08n_wj5000011 u0 u1 u2 u3 u4 u5 u6 u7 u8 (fun z2 =>
                k z2)
          else
            n08n_wj5000011 u0 u1 u2 u3 u4 u5 u6 u7 u8 (fun z3 =>
              k z3))
    else
      bif (u2 != (3 : Int)) then
        bif (u4 != (0 : Int)) then
          k false
        else
          n08n_wj5000011 u0 u1 u2 u3 u4 u5 u6 u7 u8 (fun z4 =>
            k z4)
      else
        n08n_wj5000011 u0 u1 u2 u3 u4 u5 u6 u7 u8 (fun z5 =>
          k z5)

theorem n08n_wz5000009 {u0} {u1} {u2} {u3} {u4} {u5} {u6} {u7} {u8}  {K : q26T → Option Res} : n08n_j5000009 (u0, u1, u2, u3, u4, u5, u6, u7, u8) K = n08n_wj5000009 u0 u1 u2 u3 u4 u5 u6 u7 u8 (fun z => K (z, u1, u2, u3, u4, u5, u6, u7, u8)) := by
  simp only [n08n_j5000009, n08n_wj5000009, n08n_wz5000011, Sum.elim_inl, Sum.elim_inr]

def n08n_w0 (u0 : Bool) (u1 : (List dRange)) (u4 : Int) (u5 : Int) (u6 : Int) (u7 : Int) (u8 : (List dRange)) (u9 : (List dWrite)) (u10 : Bool) (u11 : ByteArray) : List dRange → Nat → (((Bool × Int) ⊕ Int) → Option Res) → Option Res
  | [], i, k =>
    k (.inr (i : Int))
  | y :: l, i, k =>
    n05n_k y (fun y1 =>
      bif (!y1) then
        k (.inl (false, (i : Int)))
      else
        n08n_w0 u0 u1 u4 u5 u6 u7 u8 u9 u10 u11 l (i + 1) k)

theorem n08n_lw0 {u0} {u1} {u4} {u5} {u6} {u7} {u8} {u9} {u10} {u11} (h0 : u1.length < 9223372036854775807) {K : (q20T ⊕ q20T) → Option Res} : ∀ (l : List dRange) (i : Nat)  (n : Nat), u1.drop i = l → l.length < n → loopK n08n_b0 n (u0, u1, (u1.length : Int), (i : Int), u4, u5, u6, u7, u8, u9, u10, u11) K = n08n_w0 u0 u1 u4 u5 u6 u7 u8 u9 u10 u11 l  i (Sum.elim (fun z => K (.inl (z.1, u1, (u1.length : Int), z.2, u4, u5, u6, u7, u8, u9, u10, u11))) (fun z => K (.inr (u0, u1, (u1.length : Int), z, u4, u5, u6, u7, u8, u9, u10, u11)))) := by
  intro l
  induction l with
  | nil =>
    intro i  n hd hn
    have hge := lwl_nil hd
    cases n with
    | zero => exact absurd hn (Nat.not_lt_zero _)
    | succ n => simp only [loopK, n08n_b0, n08n_w0, hge, decide_false, cond_false, Sum.elim_inr, Sum.elim_inl]
  | cons y l ih =>
    intro i  n hd hn
    obtain ⟨hlt, hz, hd2, hw, hnn⟩ := lwl_cons hd h0
    have hy := lwl_get hd
    cases n with
    | zero => exact absurd hn (Nat.not_lt_zero _)
    | succ n =>
      have ih2 := ih (i + 1)  n hd2 (Nat.lt_of_succ_lt_succ hn)
      simp only [loopK, n08n_b0, n08n_w0, hlt, hz, decide_true, cond_true, and_self, if_true, hy, hw, hnn, Sum.elim_inl, Sum.elim_inr, ih2]

theorem n08n_lz0 {u0} {u1} {u4} {u5} {u6} {u7} {u8} {u9} {u10} {u11} (h0 : u1.length < 9223372036854775807) {K : (q20T ⊕ q20T) → Option Res}  : loopK n08n_b0 Fuel (u0, u1, (u1.length : Int), (0 : Int), u4, u5, u6, u7, u8, u9, u10, u11) K = n08n_w0 u0 u1 u4 u5 u6 u7 u8 u9 u10 u11 u1  0 (Sum.elim (fun z => K (.inl (z.1, u1, (u1.length : Int), z.2, u4, u5, u6, u7, u8, u9, u10, u11))) (fun z => K (.inr (u0, u1, (u1.length : Int), z, u4, u5, u6, u7, u8, u9, u10, u11)))) :=
  n08n_lw0 h0 u1 0  Fuel rfl (lwl_fuel h0)

def n08n_t (a0 : dTxn) (k : Bool → Option Res) : Option Res :=
  n08n_w0 false a0.2.2.2.2.1 a0.1 a0.2.1 a0.2.2.1 a0.2.2.2.1 a0.2.2.2.2.1 a0.2.2.2.2.2.1 a0.2.2.2.2.2.2.1 a0.2.2.2.2.2.2.2 a0.2.2.2.2.1  0 (Sum.elim (fun z23 =>
    k z23.1) (fun _ =>
    n19n_k a0.1 (1 : Int) (9999 : Int) (fun y25 =>
      bif (!y25) then
        k false
      else
        n19n_k a0.2.1 (1 : Int) (3 : Int) (fun y26 =>
          bif (!y26) then
            k false
          else
            n19n_k a0.2.2.1 (0 : Int) (9999 : Int) (fun y27 =>
              bif (!y27) then
                k false
              else
                bif (decide ((a0.2.2.2.2.1.length : Int) > (8 : Int))) then
                  k false
                else
                  n10n_k a0.2.2.2.2.2.1 (fun y28 =>
                    bif (!y28) then
                      k false
                    else
                      bif a0.2.2.2.2.2.2.1 then
                        bif (a0.2.1 == (1 : Int)) then
                          k false
                        else
                          n08n_wj5000009 false a0.1 a0.2.1 a0.2.2.1 a0.2.2.2.1 a0.2.2.2.2.1 a0.2.2.2.2.2.1 a0.2.2.2.2.2.2.1 a0.2.2.2.2.2.2.2 (fun z29 =>
                            k z29)
                      else
                        n08n_wj5000009 false a0.1 a0.2.1 a0.2.2.1 a0.2.2.2.1 a0.2.2.2.2.1 a0.2.2.2.2.2.1 a0.2.2.2.2.2.2.1 a0.2.2.2.2.2.2.2 (fun z30 =>
                          k z30)))))))

theorem n08n_r {a0 : dTxn} (h0 : a0.2.2.2.2.1.length < 9223372036854775807) {k : Bool → Option Res} : n08n_k a0 k = n08n_t a0 k := by
  rw [n08n_e]
  simp only [n08n_d, n08n_t, n08n_wz5000009, (n08n_lz0 h0), Sum.elim_inl, Sum.elim_inr]

def n67n_w0 (u0 : (List dRange)) (u1 : Int) (u4 : ByteArray) (u5 : ByteArray) : List dRange → Nat → (((Int × Int) ⊕ Int) → Option Res) → Option Res
  | [], i, k =>
    k (.inr (i : Int))
  | y :: l, i, k =>
    bif (Ty.eqB tRange (u4, u5) y) then
      k (.inl ((i : Int), (i : Int)))
    else
      n67n_w0 u0 u1 u4 u5 l (i + 1) k

theorem n67n_lw0 {u0} {u1} {u4} {u5} (h0 : u0.length < 9223372036854775807) {K : (q2T ⊕ q2T) → Option Res} : ∀ (l : List dRange) (i : Nat)  (n : Nat), u0.drop i = l → l.length < n → loopK n67n_b0 n (u0, u1, (u0.length : Int), (i : Int), u4, u5) K = n67n_w0 u0 u1 u4 u5 l  i (Sum.elim (fun z => K (.inl (u0, z.1, (u0.length : Int), z.2, u4, u5))) (fun z => K (.inr (u0, u1, (u0.length : Int), z, u4, u5)))) := by
  intro l
  induction l with
  | nil =>
    intro i  n hd hn
    have hge := lwl_nil hd
    cases n with
    | zero => exact absurd hn (Nat.not_lt_zero _)
    | succ n => simp only [loopK, n67n_b0, n67n_w0, hge, decide_false, cond_false, Sum.elim_inr, Sum.elim_inl]
  | cons y l ih =>
    intro i  n hd hn
    obtain ⟨hlt, hz, hd2, hw, hnn⟩ := lwl_cons hd h0
    have hy := lwl_get hd
    cases n with
    | zero => exact absurd hn (Nat.not_lt_zero _)
    | succ n =>
      have ih2 := ih (i + 1)  n hd2 (Nat.lt_of_succ_lt_succ hn)
      simp only [loopK, n67n_b0, n67n_w0, hlt, hz, decide_true, cond_true, and_self, if_true, hy, hw, hnn, Sum.elim_inl, Sum.elim_inr, ih2]

theorem n67n_lz0 {u0} {u1} {u4} {u5} (h0 : u0.length < 9223372036854775807) {K : (q2T ⊕ q2T) → Option Res}  : loopK n67n_b0 Fuel (u0, u1, (u0.length : Int), (0 : Int), u4, u5) K = n67n_w0 u0 u1 u4 u5 u0  0 (Sum.elim (fun z => K (.inl (u0, z.1, (u0.length : Int), z.2, u4, u5))) (fun z => K (.inr (u0, u1, (u0.length : Int), z, u4, u5)))) :=
  n67n_lw0 h0 u0 0  Fuel rfl (lwl_fuel h0)

def n67n_t (a0 : (List dRange)) (a1 : dRange) (k : Int → Option Res) : Option Res :=
  n67n_w0 a0 (0 : Int) a1.1 a1.2 a0  0 (Sum.elim (fun z23 =>
    k z23.1) (fun _ =>
    k (-1 : Int)))

theorem n67n_r {a0 : (List dRange)} {a1 : dRange} (h0 : a0.length < 9223372036854775807) {k : Int → Option Res} : n67n_k a0 a1 k = n67n_t a0 a1 k := by
  rw [n67n_e]
  simp only [n67n_d, n67n_t, (n67n_lz0 h0), Sum.elim_inl, Sum.elim_inr]

def n06n_wj5000004 (u0 : Bool) (u1 : Int) (u2 : Int) (u3 : Int) (u4 : Int) (u5 : (List dRange)) (u6 : (List dWrite)) (u7 : Bool) (u8 : ByteArray) (u9 : ByteArray) (u10 : ByteArray) (u11 : Int) (u12 : Int) (u13 : Int) (u14 : Int) (u15 : Bool) (u16 : ByteArray) (u17 : Int) (u18 : Int) (u19 : Int) (u20 : Int) (u21 : Bool) (u22 : ByteArray) (u23 : (List dRange)) (u24 : (List dWrite)) (u25 : (List dRange)) (u26 : (List dWrite)) (k : (Bool × (List dRange)) → Option Res) : Option Res :=
    n64n_k u5 (u9, u10) (fun y1 =>
      bif y1 then
        k (true, u25)
      else
        bif ((u5.length : Int) == (8 : Int)) then
          k (false, u25)
        else
          if u25.length + [(u9, u10)].length ≤ VE.maxLen then
            k (true, (u25 ++ [(u9, u10)]))
          else none)

theorem n06n_wz5000004 {u0} {u1} {u2} {u3} {u4} {u5} {u6} {u7} {u8} {u9} {u10} {u11} {u12} {u13} {u14} {u15} {u16} {u17} {u18} {u19} {u20} {u21} {u22} {u23} {u24} {u25} {u26}  {K : q25T → Option Res} : n06n_j5000004 (u0, u1, u2, u3, u4, u5, u6, u7, u8, u9, u10, u11, u12, u13, u14, u15, u16, u17, u18, u19, u20, u21, u22, u23, u24, u25, u26) K = n06n_wj5000004 u0 u1 u2 u3 u4 u5 u6 u7 u8 u9 u10 u11 u12 u13 u14 u15 u16 u17 u18 u19 u20 u21 u22 u23 u24 u25 u26 (fun z => K (z.1, u1, u2, u3, u4, u5, u6, u7, u8, u9, u10, u17, u18, u19, u20, u21, u22, u17, u18, u19, u20, u21, u22, z.2, u26)) := by
  simp only [n06n_j5000004, n06n_wj5000004, Sum.elim_inl, Sum.elim_inr]

def n06n_t (a0 : dTxn) (a1 : dRange) (k : q41T → Option Res) : Option Res :=
  n13n_k a0 (fun y23 =>
    n08n_k a0 (fun y24 =>
      bif (!y24) then
        k (y23.1, y23.2.1, y23.2.2.1, y23.2.2.2.1, y23.2.2.2.2.1, y23.2.2.2.2.2.1, false, y23.2.2.2.2.2.2.1, y23.2.2.2.2.2.2.2)
      else
        bif (a0.2.1 != (1 : Int)) then
          k (y23.1, y23.2.1, y23.2.2.1, y23.2.2.2.1, y23.2.2.2.2.1, y23.2.2.2.2.2.1, false, y23.2.2.2.2.2.2.1, y23.2.2.2.2.2.2.2)
        else
          n05n_k a1 (fun y25 =>
            bif (!y25) then
              k (y23.1, y23.2.1, y23.2.2.1, y23.2.2.2.1, y23.2.2.2.2.1, y23.2.2.2.2.2.1, false, y23.2.2.2.2.2.2.1, y23.2.2.2.2.2.2.2)
            else
              n06n_wj5000004 false a0.1 a0.2.1 a0.2.2.1 a0.2.2.2.1 a0.2.2.2.2.1 a0.2.2.2.2.2.1 a0.2.2.2.2.2.2.1 a0.2.2.2.2.2.2.2 a1.1 a1.2 (0 : Int) (0 : Int) (0 : Int) (0 : Int) false (⟨#[]⟩ : ByteArray) y23.1 y23.2.1 y23.2.2.1 y23.2.2.2.1 y23.2.2.2.2.1 y23.2.2.2.2.2.1 ([] : List dRange) ([] : List dWrite) y23.2.2.2.2.2.2.1 y23.2.2.2.2.2.2.2 (fun z26 =>
                k (y23.1, y23.2.1, y23.2.2.1, y23.2.2.2.1, y23.2.2.2.2.1, y23.2.2.2.2.2.1, z26.1, z26.2, y23.2.2.2.2.2.2.2)))))

theorem n06n_r {a0 : dTxn} {a1 : dRange}  {k : q41T → Option Res} : n06n_k a0 a1 k = n06n_t a0 a1 k := by
  rw [n06n_e]
  simp only [n06n_d, n06n_t, n06n_wz5000004, Sum.elim_inl, Sum.elim_inr]

def n66n_w0 (u0 : (List dWrite)) (u1 : Int) : List dWrite → ByteArray → Nat → (((Int × Int × ByteArray) ⊕ (Int × ByteArray)) → Option Res) → Option Res
  | [], s4, i, k =>
    k (.inr ((i : Int), s4))
  | y :: l, s4, i, k =>
    n17n_k y s4 (fun y1 =>
      bif y1.1 then
        k (.inl ((i : Int), (i : Int), y1.2))
      else
        n66n_w0 u0 u1 l y1.2 (i + 1) k)

theorem n66n_lw0 {u0} {u1} (h0 : u0.length < 9223372036854775807) {K : (q18T ⊕ q18T) → Option Res} : ∀ (l : List dWrite) (i : Nat) (s4 : ByteArray) (n : Nat), u0.drop i = l → l.length < n → loopK n66n_b0 n (u0, u1, (u0.length : Int), (i : Int), s4) K = n66n_w0 u0 u1 l s4 i (Sum.elim (fun z => K (.inl (u0, z.1, (u0.length : Int), z.2.1, z.2.2))) (fun z => K (.inr (u0, u1, (u0.length : Int), z.1, z.2)))) := by
  intro l
  induction l with
  | nil =>
    intro i s4 n hd hn
    have hge := lwl_nil hd
    cases n with
    | zero => exact absurd hn (Nat.not_lt_zero _)
    | succ n => simp only [loopK, n66n_b0, n66n_w0, hge, decide_false, cond_false, Sum.elim_inr, Sum.elim_inl]
  | cons y l ih =>
    intro i s4 n hd hn
    obtain ⟨hlt, hz, hd2, hw, hnn⟩ := lwl_cons hd h0
    have hy := lwl_get hd
    cases n with
    | zero => exact absurd hn (Nat.not_lt_zero _)
    | succ n =>
      have ih2 := fun (s4 : ByteArray) => ih (i + 1) s4 n hd2 (Nat.lt_of_succ_lt_succ hn)
      simp only [loopK, n66n_b0, n66n_w0, hlt, hz, decide_true, cond_true, and_self, if_true, hy, hw, hnn, Sum.elim_inl, Sum.elim_inr, ih2]

theorem n66n_lz0 {u0} {u1} (h0 : u0.length < 9223372036854775807) {K : (q18T ⊕ q18T) → Option Res} {s4 : ByteArray} : loopK n66n_b0 Fuel (u0, u1, (u0.length : Int), (0 : Int), s4) K = n66n_w0 u0 u1 u0 s4 0 (Sum.elim (fun z => K (.inl (u0, z.1, (u0.length : Int), z.2.1, z.2.2))) (fun z => K (.inr (u0, u1, (u0.length : Int), z.1, z.2)))) :=
  n66n_lw0 h0 u0 0 s4 Fuel rfl (lwl_fuel h0)

def n66n_t (a0 : (List dWrite)) (a1 : ByteArray) (k : (Int × ByteArray) → Option Res) : Option Res :=
  n66n_w0 a0 (0 : Int) a0 a1 0 (Sum.elim (fun z23 =>
    k (z23.1, z23.2.2)) (fun z24 =>
    k ((-1 : Int), z24.2)))

theorem n66n_r {a0 : (List dWrite)} {a1 : ByteArray} (h0 : a0.length < 9223372036854775807) {k : (Int × ByteArray) → Option Res} : n66n_k a0 a1 k = n66n_t a0 a1 k := by
  rw [n66n_e]
  simp only [n66n_d, n66n_t, (n66n_lz0 h0), Sum.elim_inl, Sum.elim_inr]

def n15n_w0 (u0 : (List dVersion)) (u1 : ByteArray) (u2 : Int) (u4 : (List dVersion)) : List dVersion → Int → Nat → ((Int × Int) → Option Res) → Option Res
  | [], s3, i, k =>
    k (s3, (i : Int))
  | y :: l, s3, i, k =>
    bif (strEq (y.1) u1) then
      bif (decide (y.2.2.2 ≤ u2)) then
        bif (decide (s3 < (0 : Int))) then
          n15n_w0 u0 u1 u2 u4 l (i : Int) (i + 1) k
        else
          if 0 ≤ s3 ∧ s3 < (u0.length : Int) then
            bif (decide (y.2.2.2 > (rd (Ty.zero tVersion) u0 s3).2.2.2)) then
              n15n_w0 u0 u1 u2 u4 l (i : Int) (i + 1) k
            else
              n15n_w0 u0 u1 u2 u4 l s3 (i + 1) k
          else none
      else
        n15n_w0 u0 u1 u2 u4 l s3 (i + 1) k
    else
      n15n_w0 u0 u1 u2 u4 l s3 (i + 1) k

theorem n15n_lw0 {u0} {u1} {u2} {u4} (h0 : u4.length < 9223372036854775807) {K : q11T → Option Res} : ∀ (l : List dVersion) (i : Nat) (s3 : Int) (n : Nat), u4.drop i = l → l.length < n → loopK n15n_b0 n (u0, u1, u2, s3, u4, (u4.length : Int), (i : Int)) K = n15n_w0 u0 u1 u2 u4 l s3 i (fun z => K (u0, u1, u2, z.1, u4, (u4.length : Int), z.2)) := by
  intro l
  induction l with
  | nil =>
    intro i s3 n hd hn
    have hge := lwl_nil hd
    cases n with
    | zero => exact absurd hn (Nat.not_lt_zero _)
    | succ n => simp only [loopK, n15n_b0, n15n_w0, hge, decide_false, cond_false, Sum.elim_inr, Sum.elim_inl]
  | cons y l ih =>
    intro i s3 n hd hn
    obtain ⟨hlt, hz, hd2, hw, hnn⟩ := lwl_cons hd h0
    have hy := lwl_get hd
    cases n with
    | zero => exact absurd hn (Nat.not_lt_zero _)
    | succ n =>
      have ih2 := fun (s3 : Int) => ih (i + 1) s3 n hd2 (Nat.lt_of_succ_lt_succ hn)
      simp only [loopK, n15n_b0, n15n_w0, hlt, hz, decide_true, cond_true, and_self, if_true, hy, hw, hnn, Sum.elim_inl, Sum.elim_inr, ih2]

theorem n15n_lz0 {u0} {u1} {u2} {u4} (h0 : u4.length < 9223372036854775807) {K : q11T → Option Res} {s3 : Int} : loopK n15n_b0 Fuel (u0, u1, u2, s3, u4, (u4.length : Int), (0 : Int)) K = n15n_w0 u0 u1 u2 u4 u4 s3 0 (fun z => K (u0, u1, u2, z.1, u4, (u4.length : Int), z.2)) :=
  n15n_lw0 h0 u4 0 s3 Fuel rfl (lwl_fuel h0)

def n15n_t (a0 : (List dVersion)) (a1 : ByteArray) (a2 : Int) (k : Int → Option Res) : Option Res :=
  n15n_w0 a0 a1 a2 a0 a0 (-1 : Int) 0 (fun z23 =>
    k z23.1)

theorem n15n_r {a0 : (List dVersion)} {a1 : ByteArray} {a2 : Int} (h0 : a0.length < 9223372036854775807) {k : Int → Option Res} : n15n_k a0 a1 a2 k = n15n_t a0 a1 a2 k := by
  rw [n15n_e]
  simp only [n15n_d, n15n_t, (n15n_lz0 h0), Sum.elim_inl, Sum.elim_inr]

def n28n_w0 (u0 : (List dVersion)) (u1 : (List dVersion)) (u2 : Bool) : List dVersion → Nat → (((Bool × Int) ⊕ Int) → Option Res) → Option Res
  | [], i, k =>
    k (.inr (i : Int))
  | y :: l, i, k =>
    if 0 ≤ (i : Int) ∧ (i : Int) < (u1.length : Int) then
      n27n_k y (rd (Ty.zero tVersion) u1 (i : Int)) (fun y1 =>
        bif (!y1) then
          k (.inl (false, (i : Int)))
        else
          n28n_w0 u0 u1 u2 l (i + 1) k)
    else none

theorem n28n_lw0 {u0} {u1} {u2} (h0 : u0.length < 9223372036854775807) {K : (q9T ⊕ q9T) → Option Res} : ∀ (l : List dVersion) (i : Nat)  (n : Nat), u0.drop i = l → l.length < n → loopK n28n_b0 n (u0, u1, u2, (i : Int)) K = n28n_w0 u0 u1 u2 l  i (Sum.elim (fun z => K (.inl (u0, u1, z.1, z.2))) (fun z => K (.inr (u0, u1, u2, z)))) := by
  intro l
  induction l with
  | nil =>
    intro i  n hd hn
    have hge := lwl_nil hd
    cases n with
    | zero => exact absurd hn (Nat.not_lt_zero _)
    | succ n => simp only [loopK, n28n_b0, n28n_w0, hge, decide_false, cond_false, Sum.elim_inr, Sum.elim_inl]
  | cons y l ih =>
    intro i  n hd hn
    obtain ⟨hlt, hz, hd2, hw, hnn⟩ := lwl_cons hd h0
    have hy := lwl_get hd
    cases n with
    | zero => exact absurd hn (Nat.not_lt_zero _)
    | succ n =>
      have ih2 := ih (i + 1)  n hd2 (Nat.lt_of_succ_lt_succ hn)
      simp only [loopK, n28n_b0, n28n_w0, hlt, hz, decide_true, cond_true, and_self, if_true, hy, hw, hnn, Sum.elim_inl, Sum.elim_inr, ih2]

theorem n28n_lz0 {u0} {u1} {u2} (h0 : u0.length < 9223372036854775807) {K : (q9T ⊕ q9T) → Option Res}  : loopK n28n_b0 Fuel (u0, u1, u2, (0 : Int)) K = n28n_w0 u0 u1 u2 u0  0 (Sum.elim (fun z => K (.inl (u0, u1, z.1, z.2))) (fun z => K (.inr (u0, u1, u2, z)))) :=
  n28n_lw0 h0 u0 0  Fuel rfl (lwl_fuel h0)

def n28n_t (a0 : (List dVersion)) (a1 : (List dVersion)) (k : Bool → Option Res) : Option Res :=
  bif ((a0.length : Int) != (a1.length : Int)) then
    k false
  else
    n28n_w0 a0 a1 false a0  0 (Sum.elim (fun z23 =>
      k z23.1) (fun _ =>
      k true))

theorem n28n_r {a0 : (List dVersion)} {a1 : (List dVersion)} (h0 : a0.length < 9223372036854775807) {k : Bool → Option Res} : n28n_k a0 a1 k = n28n_t a0 a1 k := by
  rw [n28n_e]
  simp only [n28n_d, n28n_t, (n28n_lz0 h0), Sum.elim_inl, Sum.elim_inr]

def n24n_w0 (u0 : (List dRange)) (u1 : (List dRange)) (u2 : Bool) : List dRange → Nat → (((Bool × Int) ⊕ Int) → Option Res) → Option Res
  | [], i, k =>
    k (.inr (i : Int))
  | y :: l, i, k =>
    if 0 ≤ (i : Int) ∧ (i : Int) < (u1.length : Int) then
      n23n_k y (rd (Ty.zero tRange) u1 (i : Int)) (fun y1 =>
        bif (!y1) then
          k (.inl (false, (i : Int)))
        else
          n24n_w0 u0 u1 u2 l (i + 1) k)
    else none

theorem n24n_lw0 {u0} {u1} {u2} (h0 : u0.length < 9223372036854775807) {K : (q0T ⊕ q0T) → Option Res} : ∀ (l : List dRange) (i : Nat)  (n : Nat), u0.drop i = l → l.length < n → loopK n24n_b0 n (u0, u1, u2, (i : Int)) K = n24n_w0 u0 u1 u2 l  i (Sum.elim (fun z => K (.inl (u0, u1, z.1, z.2))) (fun z => K (.inr (u0, u1, u2, z)))) := by
  intro l
  induction l with
  | nil =>
    intro i  n hd hn
    have hge := lwl_nil hd
    cases n with
    | zero => exact absurd hn (Nat.not_lt_zero _)
    | succ n => simp only [loopK, n24n_b0, n24n_w0, hge, decide_false, cond_false, Sum.elim_inr, Sum.elim_inl]
  | cons y l ih =>
    intro i  n hd hn
    obtain ⟨hlt, hz, hd2, hw, hnn⟩ := lwl_cons hd h0
    have hy := lwl_get hd
    cases n with
    | zero => exact absurd hn (Nat.not_lt_zero _)
    | succ n =>
      have ih2 := ih (i + 1)  n hd2 (Nat.lt_of_succ_lt_succ hn)
      simp only [loopK, n24n_b0, n24n_w0, hlt, hz, decide_true, cond_true, and_self, if_true, hy, hw, hnn, Sum.elim_inl, Sum.elim_inr, ih2]

theorem n24n_lz0 {u0} {u1} {u2} (h0 : u0.length < 9223372036854775807) {K : (q0T ⊕ q0T) → Option Res}  : loopK n24n_b0 Fuel (u0, u1, u2, (0 : Int)) K = n24n_w0 u0 u1 u2 u0  0 (Sum.elim (fun z => K (.inl (u0, u1, z.1, z.2))) (fun z => K (.inr (u0, u1, u2, z)))) :=
  n24n_lw0 h0 u0 0  Fuel rfl (lwl_fuel h0)

def n24n_t (a0 : (List dRange)) (a1 : (List dRange)) (k : Bool → Option Res) : Option Res :=
  bif ((a0.length : Int) != (a1.length : Int)) then
    k false
  else
    n24n_w0 a0 a1 false a0  0 (Sum.elim (fun z23 =>
      k z23.1) (fun _ =>
      k true))

theorem n24n_r {a0 : (List dRange)} {a1 : (List dRange)} (h0 : a0.length < 9223372036854775807) {k : Bool → Option Res} : n24n_k a0 a1 k = n24n_t a0 a1 k := by
  rw [n24n_e]
  simp only [n24n_d, n24n_t, (n24n_lz0 h0), Sum.elim_inl, Sum.elim_inr]

def n30n_w0 (u0 : (List dWrite)) (u1 : (List dWrite)) (u2 : Bool) : List dWrite → Nat → (((Bool × Int) ⊕ Int) → Option Res) → Option Res
  | [], i, k =>
    k (.inr (i : Int))
  | y :: l, i, k =>
    if 0 ≤ (i : Int) ∧ (i : Int) < (u1.length : Int) then
      n29n_k y (rd (Ty.zero tWrite) u1 (i : Int)) (fun y1 =>
        bif (!y1) then
          k (.inl (false, (i : Int)))
        else
          n30n_w0 u0 u1 u2 l (i + 1) k)
    else none

theorem n30n_lw0 {u0} {u1} {u2} (h0 : u0.length < 9223372036854775807) {K : (q15T ⊕ q15T) → Option Res} : ∀ (l : List dWrite) (i : Nat)  (n : Nat), u0.drop i = l → l.length < n → loopK n30n_b0 n (u0, u1, u2, (i : Int)) K = n30n_w0 u0 u1 u2 l  i (Sum.elim (fun z => K (.inl (u0, u1, z.1, z.2))) (fun z => K (.inr (u0, u1, u2, z)))) := by
  intro l
  induction l with
  | nil =>
    intro i  n hd hn
    have hge := lwl_nil hd
    cases n with
    | zero => exact absurd hn (Nat.not_lt_zero _)
    | succ n => simp only [loopK, n30n_b0, n30n_w0, hge, decide_false, cond_false, Sum.elim_inr, Sum.elim_inl]
  | cons y l ih =>
    intro i  n hd hn
    obtain ⟨hlt, hz, hd2, hw, hnn⟩ := lwl_cons hd h0
    have hy := lwl_get hd
    cases n with
    | zero => exact absurd hn (Nat.not_lt_zero _)
    | succ n =>
      have ih2 := ih (i + 1)  n hd2 (Nat.lt_of_succ_lt_succ hn)
      simp only [loopK, n30n_b0, n30n_w0, hlt, hz, decide_true, cond_true, and_self, if_true, hy, hw, hnn, Sum.elim_inl, Sum.elim_inr, ih2]

theorem n30n_lz0 {u0} {u1} {u2} (h0 : u0.length < 9223372036854775807) {K : (q15T ⊕ q15T) → Option Res}  : loopK n30n_b0 Fuel (u0, u1, u2, (0 : Int)) K = n30n_w0 u0 u1 u2 u0  0 (Sum.elim (fun z => K (.inl (u0, u1, z.1, z.2))) (fun z => K (.inr (u0, u1, u2, z)))) :=
  n30n_lw0 h0 u0 0  Fuel rfl (lwl_fuel h0)

def n30n_t (a0 : (List dWrite)) (a1 : (List dWrite)) (k : Bool → Option Res) : Option Res :=
  bif ((a0.length : Int) != (a1.length : Int)) then
    k false
  else
    n30n_w0 a0 a1 false a0  0 (Sum.elim (fun z23 =>
      k z23.1) (fun _ =>
      k true))

theorem n30n_r {a0 : (List dWrite)} {a1 : (List dWrite)} (h0 : a0.length < 9223372036854775807) {k : Bool → Option Res} : n30n_k a0 a1 k = n30n_t a0 a1 k := by
  rw [n30n_e]
  simp only [n30n_d, n30n_t, (n30n_lz0 h0), Sum.elim_inl, Sum.elim_inr]

def n26n_w0 (u0 : (List dTxn)) (u1 : (List dTxn)) (u2 : Bool) : List dTxn → Nat → (((Bool × Int) ⊕ Int) → Option Res) → Option Res
  | [], i, k =>
    k (.inr (i : Int))
  | y :: l, i, k =>
    if 0 ≤ (i : Int) ∧ (i : Int) < (u1.length : Int) then
      n25n_k y (rd (Ty.zero tTxn) u1 (i : Int)) (fun y1 =>
        bif (!y1) then
          k (.inl (false, (i : Int)))
        else
          n26n_w0 u0 u1 u2 l (i + 1) k)
    else none

theorem n26n_lw0 {u0} {u1} {u2} (h0 : u0.length < 9223372036854775807) {K : (q4T ⊕ q4T) → Option Res} : ∀ (l : List dTxn) (i : Nat)  (n : Nat), u0.drop i = l → l.length < n → loopK n26n_b0 n (u0, u1, u2, (i : Int)) K = n26n_w0 u0 u1 u2 l  i (Sum.elim (fun z => K (.inl (u0, u1, z.1, z.2))) (fun z => K (.inr (u0, u1, u2, z)))) := by
  intro l
  induction l with
  | nil =>
    intro i  n hd hn
    have hge := lwl_nil hd
    cases n with
    | zero => exact absurd hn (Nat.not_lt_zero _)
    | succ n => simp only [loopK, n26n_b0, n26n_w0, hge, decide_false, cond_false, Sum.elim_inr, Sum.elim_inl]
  | cons y l ih =>
    intro i  n hd hn
    obtain ⟨hlt, hz, hd2, hw, hnn⟩ := lwl_cons hd h0
    have hy := lwl_get hd
    cases n with
    | zero => exact absurd hn (Nat.not_lt_zero _)
    | succ n =>
      have ih2 := ih (i + 1)  n hd2 (Nat.lt_of_succ_lt_succ hn)
      simp only [loopK, n26n_b0, n26n_w0, hlt, hz, decide_true, cond_true, and_self, if_true, hy, hw, hnn, Sum.elim_inl, Sum.elim_inr, ih2]

theorem n26n_lz0 {u0} {u1} {u2} (h0 : u0.length < 9223372036854775807) {K : (q4T ⊕ q4T) → Option Res}  : loopK n26n_b0 Fuel (u0, u1, u2, (0 : Int)) K = n26n_w0 u0 u1 u2 u0  0 (Sum.elim (fun z => K (.inl (u0, u1, z.1, z.2))) (fun z => K (.inr (u0, u1, u2, z)))) :=
  n26n_lw0 h0 u0 0  Fuel rfl (lwl_fuel h0)

def n26n_t (a0 : (List dTxn)) (a1 : (List dTxn)) (k : Bool → Option Res) : Option Res :=
  bif ((a0.length : Int) != (a1.length : Int)) then
    k false
  else
    n26n_w0 a0 a1 false a0  0 (Sum.elim (fun z23 =>
      k z23.1) (fun _ =>
      k true))

theorem n26n_r {a0 : (List dTxn)} {a1 : (List dTxn)} (h0 : a0.length < 9223372036854775807) {k : Bool → Option Res} : n26n_k a0 a1 k = n26n_t a0 a1 k := by
  rw [n26n_e]
  simp only [n26n_d, n26n_t, (n26n_lz0 h0), Sum.elim_inl, Sum.elim_inr]

def n35n_w0 (u0 : (List dVersion)) (u2 : Int) : List dVersion → Int → Nat → (((Int × Int × Int) ⊕ (Int × Int)) → Option Res) → Option Res
  | [], s1, i, k =>
    k (.inr (s1, (i : Int)))
  | y :: l, s1, i, k =>
    n40n_k s1 (fun y1 =>
      bif (!(strEq (y.1) y1)) then
        k (.inl (s1, (-1 : Int), (i : Int)))
      else
        n40n_k (IntKind.wrap .i64 (s1 + (1 : Int))) (fun y2 =>
          bif (!(strEq (y.2.1) y2)) then
            k (.inl ((IntKind.wrap .i64 (s1 + (1 : Int))), (-1 : Int), (i : Int)))
          else
            bif (!(y.2.2.1 == (((IntKind.wrap .i64 ((IntKind.wrap .i64 (s1 + (1 : Int))) + (1 : Int))).tmod (3 : Int)) == (0 : Int)))) then
              k (.inl ((IntKind.wrap .i64 ((IntKind.wrap .i64 (s1 + (1 : Int))) + (1 : Int))), (-1 : Int), (i : Int)))
            else
              bif (y.2.2.2 != (IntKind.wrap .i64 ((IntKind.wrap .i64 ((IntKind.wrap .i64 (s1 + (1 : Int))) + (1 : Int))) + (1 : Int)))) then
                k (.inl ((IntKind.wrap .i64 ((IntKind.wrap .i64 ((IntKind.wrap .i64 (s1 + (1 : Int))) + (1 : Int))) + (1 : Int))), (-1 : Int), (i : Int)))
              else
                n35n_w0 u0 u2 l (IntKind.wrap .i64 ((IntKind.wrap .i64 ((IntKind.wrap .i64 ((IntKind.wrap .i64 (s1 + (1 : Int))) + (1 : Int))) + (1 : Int))) + (1 : Int))) (i + 1) k))

theorem n35n_lw0 {u0} {u2} (h0 : u0.length < 9223372036854775807) {K : (q14T ⊕ q14T) → Option Res} : ∀ (l : List dVersion) (i : Nat) (s1 : Int) (n : Nat), u0.drop i = l → l.length < n → loopK n35n_b0 n (u0, s1, u2, (i : Int)) K = n35n_w0 u0 u2 l s1 i (Sum.elim (fun z => K (.inl (u0, z.1, z.2.1, z.2.2))) (fun z => K (.inr (u0, z.1, u2, z.2)))) := by
  intro l
  induction l with
  | nil =>
    intro i s1 n hd hn
    have hge := lwl_nil hd
    cases n with
    | zero => exact absurd hn (Nat.not_lt_zero _)
    | succ n => simp only [loopK, n35n_b0, n35n_w0, hge, decide_false, cond_false, Sum.elim_inr, Sum.elim_inl]
  | cons y l ih =>
    intro i s1 n hd hn
    obtain ⟨hlt, hz, hd2, hw, hnn⟩ := lwl_cons hd h0
    have hy := lwl_get hd
    cases n with
    | zero => exact absurd hn (Nat.not_lt_zero _)
    | succ n =>
      have ih2 := fun (s1 : Int) => ih (i + 1) s1 n hd2 (Nat.lt_of_succ_lt_succ hn)
      simp only [loopK, n35n_b0, n35n_w0, hlt, hz, decide_true, cond_true, and_self, if_true, hy, hw, hnn, Sum.elim_inl, Sum.elim_inr, ih2]

theorem n35n_lz0 {u0} {u2} (h0 : u0.length < 9223372036854775807) {K : (q14T ⊕ q14T) → Option Res} {s1 : Int} : loopK n35n_b0 Fuel (u0, s1, u2, (0 : Int)) K = n35n_w0 u0 u2 u0 s1 0 (Sum.elim (fun z => K (.inl (u0, z.1, z.2.1, z.2.2))) (fun z => K (.inr (u0, z.1, u2, z.2)))) :=
  n35n_lw0 h0 u0 0 s1 Fuel rfl (lwl_fuel h0)

def n35n_t (a0 : (List dVersion)) (a1 : Int) (k : Int → Option Res) : Option Res :=
  n35n_w0 a0 (0 : Int) a0 a1 0 (Sum.elim (fun z23 =>
    k z23.2.1) (fun z24 =>
    k z24.1))

theorem n35n_r {a0 : (List dVersion)} {a1 : Int} (h0 : a0.length < 9223372036854775807) {k : Int → Option Res} : n35n_k a0 a1 k = n35n_t a0 a1 k := by
  rw [n35n_e]
  simp only [n35n_d, n35n_t, (n35n_lz0 h0), Sum.elim_inl, Sum.elim_inr]

def n33n_w0 (u0 : (List dRange)) (u2 : Int) : List dRange → Int → Nat → (((Int × Int × Int) ⊕ (Int × Int)) → Option Res) → Option Res
  | [], s1, i, k =>
    k (.inr (s1, (i : Int)))
  | y :: l, s1, i, k =>
    n40n_k s1 (fun y1 =>
      bif (!(strEq (y.1) y1)) then
        k (.inl (s1, (-1 : Int), (i : Int)))
      else
        n40n_k (IntKind.wrap .i64 (s1 + (1 : Int))) (fun y2 =>
          bif (!(strEq (y.2) y2)) then
            k (.inl ((IntKind.wrap .i64 (s1 + (1 : Int))), (-1 : Int), (i : Int)))
          else
            n33n_w0 u0 u2 l (IntKind.wrap .i64 ((IntKind.wrap .i64 (s1 + (1 : Int))) + (1 : Int))) (i + 1) k))

theorem n33n_lw0 {u0} {u2} (h0 : u0.length < 9223372036854775807) {K : (q3T ⊕ q3T) → Option Res} : ∀ (l : List dRange) (i : Nat) (s1 : Int) (n : Nat), u0.drop i = l → l.length < n → loopK n33n_b0 n (u0, s1, u2, (i : Int)) K = n33n_w0 u0 u2 l s1 i (Sum.elim (fun z => K (.inl (u0, z.1, z.2.1, z.2.2))) (fun z => K (.inr (u0, z.1, u2, z.2)))) := by
  intro l
  induction l with
  | nil =>
    intro i s1 n hd hn
    have hge := lwl_nil hd
    cases n with
    | zero => exact absurd hn (Nat.not_lt_zero _)
    | succ n => simp only [loopK, n33n_b0, n33n_w0, hge, decide_false, cond_false, Sum.elim_inr, Sum.elim_inl]
  | cons y l ih =>
    intro i s1 n hd hn
    obtain ⟨hlt, hz, hd2, hw, hnn⟩ := lwl_cons hd h0
    have hy := lwl_get hd
    cases n with
    | zero => exact absurd hn (Nat.not_lt_zero _)
    | succ n =>
      have ih2 := fun (s1 : Int) => ih (i + 1) s1 n hd2 (Nat.lt_of_succ_lt_succ hn)
      simp only [loopK, n33n_b0, n33n_w0, hlt, hz, decide_true, cond_true, and_self, if_true, hy, hw, hnn, Sum.elim_inl, Sum.elim_inr, ih2]

theorem n33n_lz0 {u0} {u2} (h0 : u0.length < 9223372036854775807) {K : (q3T ⊕ q3T) → Option Res} {s1 : Int} : loopK n33n_b0 Fuel (u0, s1, u2, (0 : Int)) K = n33n_w0 u0 u2 u0 s1 0 (Sum.elim (fun z => K (.inl (u0, z.1, z.2.1, z.2.2))) (fun z => K (.inr (u0, z.1, u2, z.2)))) :=
  n33n_lw0 h0 u0 0 s1 Fuel rfl (lwl_fuel h0)

def n33n_t (a0 : (List dRange)) (a1 : Int) (k : Int → Option Res) : Option Res :=
  n33n_w0 a0 (0 : Int) a0 a1 0 (Sum.elim (fun z23 =>
    k z23.2.1) (fun z24 =>
    k z24.1))

theorem n33n_r {a0 : (List dRange)} {a1 : Int} (h0 : a0.length < 9223372036854775807) {k : Int → Option Res} : n33n_k a0 a1 k = n33n_t a0 a1 k := by
  rw [n33n_e]
  simp only [n33n_d, n33n_t, (n33n_lz0 h0), Sum.elim_inl, Sum.elim_inr]

def n36n_w0 (u0 : (List dWrite)) (u2 : Int) : List dWrite → Int → Nat → (((Int × Int × Int) ⊕ (Int × Int)) → Option Res) → Option Res
  | [], s1, i, k =>
    k (.inr (s1, (i : Int)))
  | y :: l, s1, i, k =>
    n40n_k s1 (fun y1 =>
      bif (!(strEq (y.1) y1)) then
        k (.inl (s1, (-1 : Int), (i : Int)))
      else
        n40n_k (IntKind.wrap .i64 (s1 + (1 : Int))) (fun y2 =>
          bif (!(strEq (y.2.1) y2)) then
            k (.inl ((IntKind.wrap .i64 (s1 + (1 : Int))), (-1 : Int), (i : Int)))
          else
            bif (!(y.2.2 == (((IntKind.wrap .i64 ((IntKind.wrap .i64 (s1 + (1 : Int))) + (1 : Int))).tmod (3 : Int)) == (0 : Int)))) then
              k (.inl ((IntKind.wrap .i64 ((IntKind.wrap .i64 (s1 + (1 : Int))) + (1 : Int))), (-1 : Int), (i : Int)))
            else
              n36n_w0 u0 u2 l (IntKind.wrap .i64 ((IntKind.wrap .i64 ((IntKind.wrap .i64 (s1 + (1 : Int))) + (1 : Int))) + (1 : Int))) (i + 1) k))

theorem n36n_lw0 {u0} {u2} (h0 : u0.length < 9223372036854775807) {K : (q19T ⊕ q19T) → Option Res} : ∀ (l : List dWrite) (i : Nat) (s1 : Int) (n : Nat), u0.drop i = l → l.length < n → loopK n36n_b0 n (u0, s1, u2, (i : Int)) K = n36n_w0 u0 u2 l s1 i (Sum.elim (fun z => K (.inl (u0, z.1, z.2.1, z.2.2))) (fun z => K (.inr (u0, z.1, u2, z.2)))) := by
  intro l
  induction l with
  | nil =>
    intro i s1 n hd hn
    have hge := lwl_nil hd
    cases n with
    | zero => exact absurd hn (Nat.not_lt_zero _)
    | succ n => simp only [loopK, n36n_b0, n36n_w0, hge, decide_false, cond_false, Sum.elim_inr, Sum.elim_inl]
  | cons y l ih =>
    intro i s1 n hd hn
    obtain ⟨hlt, hz, hd2, hw, hnn⟩ := lwl_cons hd h0
    have hy := lwl_get hd
    cases n with
    | zero => exact absurd hn (Nat.not_lt_zero _)
    | succ n =>
      have ih2 := fun (s1 : Int) => ih (i + 1) s1 n hd2 (Nat.lt_of_succ_lt_succ hn)
      simp only [loopK, n36n_b0, n36n_w0, hlt, hz, decide_true, cond_true, and_self, if_true, hy, hw, hnn, Sum.elim_inl, Sum.elim_inr, ih2]

theorem n36n_lz0 {u0} {u2} (h0 : u0.length < 9223372036854775807) {K : (q19T ⊕ q19T) → Option Res} {s1 : Int} : loopK n36n_b0 Fuel (u0, s1, u2, (0 : Int)) K = n36n_w0 u0 u2 u0 s1 0 (Sum.elim (fun z => K (.inl (u0, z.1, z.2.1, z.2.2))) (fun z => K (.inr (u0, z.1, u2, z.2)))) :=
  n36n_lw0 h0 u0 0 s1 Fuel rfl (lwl_fuel h0)

def n36n_t (a0 : (List dWrite)) (a1 : Int) (k : Int → Option Res) : Option Res :=
  n36n_w0 a0 (0 : Int) a0 a1 0 (Sum.elim (fun z23 =>
    k z23.2.1) (fun z24 =>
    k z24.1))

theorem n36n_r {a0 : (List dWrite)} {a1 : Int} (h0 : a0.length < 9223372036854775807) {k : Int → Option Res} : n36n_k a0 a1 k = n36n_t a0 a1 k := by
  rw [n36n_e]
  simp only [n36n_d, n36n_t, (n36n_lz0 h0), Sum.elim_inl, Sum.elim_inr]

def n34n_w0 (u0 : (List dTxn)) (u2 : Int) : List dTxn → Int → Nat → (((Int × Int × Int) ⊕ (Int × Int)) → Option Res) → Option Res
  | [], s1, i, k =>
    k (.inr (s1, (i : Int)))
  | y :: l, s1, i, k =>
    bif (y.1 != s1) then
      k (.inl (s1, (-1 : Int), (i : Int)))
    else
      bif (y.2.1 != (IntKind.wrap .i64 (s1 + (1 : Int)))) then
        k (.inl ((IntKind.wrap .i64 (s1 + (1 : Int))), (-1 : Int), (i : Int)))
      else
        bif (y.2.2.1 != (IntKind.wrap .i64 ((IntKind.wrap .i64 (s1 + (1 : Int))) + (1 : Int)))) then
          k (.inl ((IntKind.wrap .i64 ((IntKind.wrap .i64 (s1 + (1 : Int))) + (1 : Int))), (-1 : Int), (i : Int)))
        else
          bif (y.2.2.2.1 != (IntKind.wrap .i64 ((IntKind.wrap .i64 ((IntKind.wrap .i64 (s1 + (1 : Int))) + (1 : Int))) + (1 : Int)))) then
            k (.inl ((IntKind.wrap .i64 ((IntKind.wrap .i64 ((IntKind.wrap .i64 (s1 + (1 : Int))) + (1 : Int))) + (1 : Int))), (-1 : Int), (i : Int)))
          else
            n33n_k y.2.2.2.2.1 (IntKind.wrap .i64 ((IntKind.wrap .i64 ((IntKind.wrap .i64 ((IntKind.wrap .i64 (s1 + (1 : Int))) + (1 : Int))) + (1 : Int))) + (1 : Int))) (fun y1 =>
              bif (decide (y1 < (0 : Int))) then
                k (.inl (y1, (-1 : Int), (i : Int)))
              else
                n36n_k y.2.2.2.2.2.1 y1 (fun y2 =>
                  bif (decide (y2 < (0 : Int))) then
                    k (.inl (y2, (-1 : Int), (i : Int)))
                  else
                    bif (!(y.2.2.2.2.2.2.1 == ((y2.tmod (3 : Int)) == (0 : Int)))) then
                      k (.inl (y2, (-1 : Int), (i : Int)))
                    else
                      n40n_k (IntKind.wrap .i64 (y2 + (1 : Int))) (fun y3 =>
                        bif (!(strEq (y.2.2.2.2.2.2.2) y3)) then
                          k (.inl ((IntKind.wrap .i64 (y2 + (1 : Int))), (-1 : Int), (i : Int)))
                        else
                          n34n_w0 u0 u2 l (IntKind.wrap .i64 ((IntKind.wrap .i64 (y2 + (1 : Int))) + (1 : Int))) (i + 1) k)))

theorem n34n_lw0 {u0} {u2} (h0 : u0.length < 9223372036854775807) {K : (q8T ⊕ q8T) → Option Res} : ∀ (l : List dTxn) (i : Nat) (s1 : Int) (n : Nat), u0.drop i = l → l.length < n → loopK n34n_b0 n (u0, s1, u2, (i : Int)) K = n34n_w0 u0 u2 l s1 i (Sum.elim (fun z => K (.inl (u0, z.1, z.2.1, z.2.2))) (fun z => K (.inr (u0, z.1, u2, z.2)))) := by
  intro l
  induction l with
  | nil =>
    intro i s1 n hd hn
    have hge := lwl_nil hd
    cases n with
    | zero => exact absurd hn (Nat.not_lt_zero _)
    | succ n => simp only [loopK, n34n_b0, n34n_w0, hge, decide_false, cond_false, Sum.elim_inr, Sum.elim_inl]
  | cons y l ih =>
    intro i s1 n hd hn
    obtain ⟨hlt, hz, hd2, hw, hnn⟩ := lwl_cons hd h0
    have hy := lwl_get hd
    cases n with
    | zero => exact absurd hn (Nat.not_lt_zero _)
    | succ n =>
      have ih2 := fun (s1 : Int) => ih (i + 1) s1 n hd2 (Nat.lt_of_succ_lt_succ hn)
      simp only [loopK, n34n_b0, n34n_w0, hlt, hz, decide_true, cond_true, and_self, if_true, hy, hw, hnn, Sum.elim_inl, Sum.elim_inr, ih2]

theorem n34n_lz0 {u0} {u2} (h0 : u0.length < 9223372036854775807) {K : (q8T ⊕ q8T) → Option Res} {s1 : Int} : loopK n34n_b0 Fuel (u0, s1, u2, (0 : Int)) K = n34n_w0 u0 u2 u0 s1 0 (Sum.elim (fun z => K (.inl (u0, z.1, z.2.1, z.2.2))) (fun z => K (.inr (u0, z.1, u2, z.2)))) :=
  n34n_lw0 h0 u0 0 s1 Fuel rfl (lwl_fuel h0)

def n34n_t (a0 : (List dTxn)) (a1 : Int) (k : Int → Option Res) : Option Res :=
  n34n_w0 a0 (0 : Int) a0 a1 0 (Sum.elim (fun z23 =>
    k z23.2.1) (fun z24 =>
    k z24.1))

theorem n34n_r {a0 : (List dTxn)} {a1 : Int} (h0 : a0.length < 9223372036854775807) {k : Int → Option Res} : n34n_k a0 a1 k = n34n_t a0 a1 k := by
  rw [n34n_e]
  simp only [n34n_d, n34n_t, (n34n_lz0 h0), Sum.elim_inl, Sum.elim_inr]

def n20n_wj5000029 (u0 : Bool) (u1 : Int) (u2 : Int) (u3 : Int) (u4 : (List dVersion)) (u5 : (List dTxn)) (u6 : (List dTxn)) (u7 : (List dTxn)) (k : Bool → Option Res) : Option Res :=
    n32n_k ((u4, (u5, (u6, (u2, u3)))), u7) (1 : Int) (fun y1 =>
      bif (decide (y1 < (0 : Int))) then
        k false
      else
        bif (y1 != u1) then
          k false
        else
          k true)

theorem n20n_wz5000029 {u0} {u1} {u2} {u3} {u4} {u5} {u6} {u7}  {K : q23T → Option Res} : n20n_j5000029 (u0, u1, u2, u3, u4, u5, u6, u7) K = n20n_wj5000029 u0 u1 u2 u3 u4 u5 u6 u7 (fun z => K (z, u1, u2, u3, u4, u5, u6, u7)) := by
  simp only [n20n_j5000029, n20n_wj5000029, Sum.elim_inl, Sum.elim_inr]

def n20n_wj5000018 (u0 : Int) (u1 : ByteArray) (u2 : Bool) (u3 : ByteArray) (u4 : Bool) (u5 : Int) (u6 : (List dVersion)) (u7 : (List dTxn)) (u8 : (List dTxn)) (u9 : Int) (u10 : Int) (u11 : (List dTxn)) (u12 : Int) (u13 : Int) (u14 : Int) (u15 : Int) (u16 : (List dVersion)) (u17 : (List dTxn)) (u18 : (List dTxn)) (u19 : (List dTxn)) (u20 : (List dVersion)) (u21 : (List dTxn)) (u22 : (List dTxn)) (u23 : (List dTxn)) (k : (q21T ⊕ q21T) → Option Res) : Option Res :=
    n38n_k u14 u15 (1 : Int) u20 u21 u22 u23 (fun y1 =>
      n32n_k ((y1.2.1, (y1.2.2.1, (y1.2.2.2.1, (u14, u15)))), y1.2.2.2.2) (1 : Int) (fun y2 =>
        bif (decide (y2 < (0 : Int))) then
          k (.inl (false, y1.2.1, y1.2.2.1, y1.2.2.2.1, y1.2.2.2.2))
        else
          bif (y2 != y1.1) then
            k (.inl (false, y1.2.1, y1.2.2.1, y1.2.2.2.1, y1.2.2.2.2))
          else
            n55n_k ((u6, (u7, (u8, (u9, u10)))), u11) (fun y3 =>
              n00n_k ((y3.2.2.1, (y3.2.2.2.1, (y3.2.2.2.2.1, (y3.1, y3.2.1)))), y3.2.2.2.2.2) u0 u1 (fun y4 =>
                n22n_k ((y4.2.2.2.2.2.1, (y4.2.2.2.2.2.2.1, (y4.2.2.2.2.2.2.2.1, (y4.1, y4.2.1)))), y4.2.2.2.2.2.2.2.2) ((u16, (u17, (u18, (u12, u13)))), u19) (fun y5 =>
                  bif (!y5) then
                    k (.inl (false, y1.2.1, y1.2.2.1, y1.2.2.2.1, y1.2.2.2.2))
                  else
                    bif (!(strEq y4.2.2.1 u3)) then
                      k (.inl (false, y1.2.1, y1.2.2.1, y1.2.2.2.1, y1.2.2.2.2))
                    else
                      bif (!(y4.2.2.2.1 == u4)) then
                        k (.inl (false, y1.2.1, y1.2.2.1, y1.2.2.2.1, y1.2.2.2.2))
                      else
                        bif (y4.2.2.2.2.1 != u5) then
                          k (.inl (false, y1.2.1, y1.2.2.1, y1.2.2.2.1, y1.2.2.2.2))
                        else
                          n20n_wj5000029 u2 y1.1 u14 u15 y1.2.1 y1.2.2.1 y1.2.2.2.1 y1.2.2.2.2 (fun z6 =>
                            k (.inr (z6, y1.2.1, y1.2.2.1, y1.2.2.2.1, y1.2.2.2.2))))))))

theorem n20n_wz5000018 {u0} {u1} {u2} {u3} {u4} {u5} {u6} {u7} {u8} {u9} {u10} {u11} {u12} {u13} {u14} {u15} {u16} {u17} {u18} {u19} {u20} {u21} {u22} {u23}  {K : (q33T ⊕ q22T) → Option Res} : n20n_j5000018 (u0, u1, u2, u3, u4, u5, u6, u7, u8, u9, u10, u11, u12, u13, u14, u15, u16, u17, u18, u19, u20, u21, u22, u23) K = n20n_wj5000018 u0 u1 u2 u3 u4 u5 u6 u7 u8 u9 u10 u11 u12 u13 u14 u15 u16 u17 u18 u19 u20 u21 u22 u23 (Sum.elim (fun z => K (.inl (u0, u1, z.1, u3, u4, u5, u6, u7, u8, u9, u10, u11, u12, u13, u14, u15, u16, u17, u18, u19, z.2.1, z.2.2.1, z.2.2.2.1, z.2.2.2.2))) (fun z => K (.inr (z.1, u14, u15, z.2.1, z.2.2.1, z.2.2.2.1, z.2.2.2.2)))) := by
  simp only [n20n_j5000018, n20n_wj5000018, n20n_wz5000029, Sum.elim_inl, Sum.elim_inr]

def n20n_wj5000012 (u0 : Int) (u1 : ByteArray) (u2 : Bool) (u3 : ByteArray) (u4 : Bool) (u5 : Int) (u6 : ByteArray) (u7 : Bool) (u8 : Int) (u9 : (List dVersion)) (u10 : (List dTxn)) (u11 : (List dTxn)) (u12 : Int) (u13 : Int) (u14 : (List dTxn)) (u15 : Int) (u16 : Int) (u17 : Int) (u18 : Int) (u19 : Int) (u20 : Int) (u21 : (List dVersion)) (u22 : (List dTxn)) (u23 : (List dTxn)) (u24 : (List dTxn)) (u25 : (List dVersion)) (u26 : (List dTxn)) (u27 : (List dTxn)) (u28 : (List dTxn)) (u29 : (List dVersion)) (u30 : (List dTxn)) (u31 : (List dTxn)) (u32 : (List dTxn)) (k : (q21T ⊕ (q21T ⊕ q21T)) → Option Res) : Option Res :=
    n55n_k ((u9, (u10, (u11, (u12, u13)))), u14) (fun y1 =>
      n22n_k ((u25, (u26, (u27, (u17, u18)))), u28) ((y1.2.2.1, (y1.2.2.2.1, (y1.2.2.2.2.1, (y1.1, y1.2.1)))), y1.2.2.2.2.2) (fun y2 =>
        bif (!y2) then
          k (.inl (false, u25, u26, u27, u28))
        else
          n38n_k u17 u18 (1 : Int) u25 u26 u27 u28 (fun y3 =>
            bif (decide (y3.1 < (0 : Int))) then
              k (.inl (false, y3.2.1, y3.2.2.1, y3.2.2.2.1, y3.2.2.2.2))
            else
              n22n_k ((u29, (u30, (u31, (u19, u20)))), u32) ((u21, (u22, (u23, (u15, u16)))), u24) (fun y4 =>
                bif (!y4) then
                  k (.inl (false, y3.2.1, y3.2.2.1, y3.2.2.2.1, y3.2.2.2.2))
                else
                  bif (!(strEq u6 u3)) then
                    k (.inl (false, y3.2.1, y3.2.2.1, y3.2.2.2.1, y3.2.2.2.2))
                  else
                    bif (!(u7 == u4)) then
                      k (.inl (false, y3.2.1, y3.2.2.1, y3.2.2.2.1, y3.2.2.2.2))
                    else
                      bif (u8 != u5) then
                        k (.inl (false, y3.2.1, y3.2.2.1, y3.2.2.2.1, y3.2.2.2.2))
                      else
                        n20n_wj5000018 u0 u1 u2 u3 u4 u5 u9 u10 u11 u12 u13 u14 u15 u16 u19 u20 u21 u22 u23 u24 u29 u30 u31 u32 (Sum.elim (fun z5 =>
                          k (.inr (.inl (z5.1, z5.2.1, z5.2.2.1, z5.2.2.2.1, z5.2.2.2.2)))) (fun z6 =>
                          k (.inr (.inr (z6.1, z6.2.1, z6.2.2.1, z6.2.2.2.1, z6.2.2.2.2)))))))))

theorem n20n_wz5000012 {u0} {u1} {u2} {u3} {u4} {u5} {u6} {u7} {u8} {u9} {u10} {u11} {u12} {u13} {u14} {u15} {u16} {u17} {u18} {u19} {u20} {u21} {u22} {u23} {u24} {u25} {u26} {u27} {u28} {u29} {u30} {u31} {u32}  {K : (q34T ⊕ (q33T ⊕ q22T)) → Option Res} : n20n_j5000012 (u0, u1, u2, u3, u4, u5, u6, u7, u8, u9, u10, u11, u12, u13, u14, u15, u16, u17, u18, u19, u20, u21, u22, u23, u24, u25, u26, u27, u28, u29, u30, u31, u32) K = n20n_wj5000012 u0 u1 u2 u3 u4 u5 u6 u7 u8 u9 u10 u11 u12 u13 u14 u15 u16 u17 u18 u19 u20 u21 u22 u23 u24 u25 u26 u27 u28 u29 u30 u31 u32 (Sum.elim (fun z => K (.inl (u0, u1, z.1, u3, u4, u5, u6, u7, u8, u9, u10, u11, u12, u13, u14, u15, u16, u17, u18, u19, u20, u21, u22, u23, u24, z.2.1, z.2.2.1, z.2.2.2.1, z.2.2.2.2, u29, u30, u31, u32))) (Sum.elim (fun z => K (.inr (.inl (u0, u1, z.1, u3, u4, u5, u9, u10, u11, u12, u13, u14, u15, u16, u19, u20, u21, u22, u23, u24, z.2.1, z.2.2.1, z.2.2.2.1, z.2.2.2.2)))) (fun z => K (.inr (.inr (z.1, u19, u20, z.2.1, z.2.2.1, z.2.2.2.1, z.2.2.2.2)))))) := by
  simp only [n20n_j5000012, n20n_wj5000012, n20n_wz5000018, Sum.elim_inl, Sum.elim_inr]

def n20n_t (a0 : dEngine) (a1 : Int) (a2 : ByteArray) (k : Bool → Option Res) : Option Res :=
  bif (decide ((a2.size : Int) > (1048576 : Int))) then
    k true
  else
    n45n_k a0 (1048576 : Int) (fun y23 =>
      bif (decide (y23 < (0 : Int))) then
        k true
      else
        n55n_k a0 (fun y24 =>
          n68n_k ((y24.2.2.1, (y24.2.2.2.1, (y24.2.2.2.2.1, (y24.1, y24.2.1)))), y24.2.2.2.2.2) a1 a2 (fun y25 =>
            n55n_k a0 (fun y26 =>
              n00n_k ((y26.2.2.1, (y26.2.2.2.1, (y26.2.2.2.2.1, (y26.1, y26.2.1)))), y26.2.2.2.2.2) a1 a2 (fun y27 =>
                n22n_k ((y27.2.2.2.2.2.1, (y27.2.2.2.2.2.2.1, (y27.2.2.2.2.2.2.2.1, (y27.1, y27.2.1)))), y27.2.2.2.2.2.2.2.2) ((y25.2.2.2.2.2.1, (y25.2.2.2.2.2.2.1, (y25.2.2.2.2.2.2.2.1, (y25.1, y25.2.1)))), y25.2.2.2.2.2.2.2.2) (fun y28 =>
                  bif (!y28) then
                    k false
                  else
                    bif (!(strEq y27.2.2.1 y25.2.2.1)) then
                      k false
                    else
                      bif (!(y27.2.2.2.1 == y25.2.2.2.1)) then
                        k false
                      else
                        bif (y27.2.2.2.2.1 != y25.2.2.2.2.1) then
                          k false
                        else
                          n20n_wj5000012 a1 a2 false y25.2.2.1 y25.2.2.2.1 y25.2.2.2.2.1 y27.2.2.1 y27.2.2.2.1 y27.2.2.2.2.1 a0.1.1 a0.1.2.1 a0.1.2.2.1 a0.1.2.2.2.1 a0.1.2.2.2.2 a0.2 y25.1 y25.2.1 y26.1 y26.2.1 y27.1 y27.2.1 y25.2.2.2.2.2.1 y25.2.2.2.2.2.2.1 y25.2.2.2.2.2.2.2.1 y25.2.2.2.2.2.2.2.2 y26.2.2.1 y26.2.2.2.1 y26.2.2.2.2.1 y26.2.2.2.2.2 y27.2.2.2.2.2.1 y27.2.2.2.2.2.2.1 y27.2.2.2.2.2.2.2.1 y27.2.2.2.2.2.2.2.2 (Sum.elim (fun z29 =>
                            k z29.1) (Sum.elim (fun z30 =>
                            k z30.1) (fun z31 =>
                            k z31.1)))))))))

theorem n20n_r {a0 : dEngine} {a1 : Int} {a2 : ByteArray}  {k : Bool → Option Res} : n20n_k a0 a1 a2 k = n20n_t a0 a1 a2 k := by
  rw [n20n_e]
  simp only [n20n_d, n20n_t, n20n_wz5000012, Sum.elim_inl, Sum.elim_inr]

end

end Go.VE
