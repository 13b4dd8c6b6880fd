/- Loops told as recursions over what is left; written by gen.py. -/

import Derived.Test.YtbedbcnmfoildaaFnDangersN

import Derived.Test.YtbedbcnmfoildaaP1

namespace Go.VE

noncomputable section

set_option linter.unusedVariables false
set_option linter.unusedSimpArgs false
set_option maxRecDepth 100000


def spec_PutWrite_w0 (u0 : (List dWrite)) (u2 : ByteArray) (u3 : ByteArray) (u4 : Bool) : List dWrite → (List dWrite) → Nat → ((Int × (List dWrite)) → Option Res) → Option Res
  | [], s5, i, k =>
    k ((i : Int), s5)
  | y :: l, s5, i, k =>
    bif (strLess (y.1) u2) then
      if s5.length + [y].length ≤ VE.maxLen then
        spec_PutWrite_w0 u0 u2 u3 u4 l (s5 ++ [y]) (i + 1) k
      else none
    else
      spec_PutWrite_w0 u0 u2 u3 u4 l s5 (i + 1) k

theorem spec_PutWrite_lw0 {u0} {u2} {u3} {u4} (h0 : u0.length < 9223372036854775807) {K : q22T → Option Res} : ∀ (l : List dWrite) (i : Nat) (s5 : (List dWrite)) (n : Nat), u0.drop i = l → l.length < n → loopK spec_PutWrite_b0 n (u0, (i : Int), u2, u3, u4, s5) K = spec_PutWrite_w0 u0 u2 u3 u4 l s5 i (fun z => K (u0, z.1, u2, u3, u4, z.2)) := by
  intro l
  induction l with
  | nil =>
    intro i s5 n hd hn
    have hge := lwl_nil hd
    cases n with
    | zero => exact absurd hn (Nat.not_lt_zero _)
    | succ n => simp only [loopK, spec_PutWrite_b0, spec_PutWrite_w0, hge, decide_false, cond_false, Sum.elim_inr, Sum.elim_inl]
  | cons y l ih =>
    intro i s5 n hd hn
    obtain ⟨hlt, hz, hd2, hw, hnn⟩ := lwl_cons hd h0
    have hy := lwl_get hd
    cases n with
    | zero => exact absurd hn (Nat.not_lt_zero _)
    | succ n =>
      have ih2 := fun (s5 : (List dWrite)) => ih (i + 1) s5 n hd2 (Nat.lt_of_succ_lt_succ hn)
      simp only [loopK, spec_PutWrite_b0, spec_PutWrite_w0, hlt, hz, decide_true, cond_true, and_self, if_true, hy, hw, hnn, Sum.elim_inl, Sum.elim_inr, ih2]

theorem spec_PutWrite_lz0 {u0} {u2} {u3} {u4} (h0 : u0.length < 9223372036854775807) {K : q22T → Option Res} {s5 : (List dWrite)} : loopK spec_PutWrite_b0 Fuel (u0, (0 : Int), u2, u3, u4, s5) K = spec_PutWrite_w0 u0 u2 u3 u4 u0 s5 0 (fun z => K (u0, z.1, u2, u3, u4, z.2)) :=
  spec_PutWrite_lw0 h0 u0 0 s5 Fuel rfl (lwl_fuel h0)

def spec_PutWrite_w2 (u0 : (List dWrite)) (u2 : ByteArray) (u3 : ByteArray) (u4 : Bool) : List dWrite → (List dWrite) → Nat → ((Int × (List dWrite)) → Option Res) → Option Res
  | [], s5, i, k =>
    k ((i : Int), s5)
  | y :: l, s5, i, k =>
    bif (!((strLess (y.1) u2) || (strEq (y.1) u2))) then
      if s5.length + [y].length ≤ VE.maxLen then
        spec_PutWrite_w2 u0 u2 u3 u4 l (s5 ++ [y]) (i + 1) k
      else none
    else
      spec_PutWrite_w2 u0 u2 u3 u4 l s5 (i + 1) k

theorem spec_PutWrite_lw2 {u0} {u2} {u3} {u4} (h0 : u0.length < 9223372036854775807) {K : q22T → Option Res} : ∀ (l : List dWrite) (i : Nat) (s5 : (List dWrite)) (n : Nat), u0.drop i = l → l.length < n → loopK spec_PutWrite_b2 n (u0, (i : Int), u2, u3, u4, s5) K = spec_PutWrite_w2 u0 u2 u3 u4 l s5 i (fun z => K (u0, z.1, u2, u3, u4, z.2)) := by
  intro l
  induction l with
  | nil =>
    intro i s5 n hd hn
    have hge := lwl_nil hd
    cases n with
    | zero => exact absurd hn (Nat.not_lt_zero _)
    | succ n => simp only [loopK, spec_PutWrite_b2, spec_PutWrite_w2, hge, decide_false, cond_false, Sum.elim_inr, Sum.elim_inl]
  | cons y l ih =>
    intro i s5 n hd hn
    obtain ⟨hlt, hz, hd2, hw, hnn⟩ := lwl_cons hd h0
    have hy := lwl_get hd
    cases n with
    | zero => exact absurd hn (Nat.not_lt_zero _)
    | succ n =>
      have ih2 := fun (s5 : (List dWrite)) => ih (i + 1) s5 n hd2 (Nat.lt_of_succ_lt_succ hn)
      simp only [loopK, spec_PutWrite_b2, spec_PutWrite_w2, hlt, hz, decide_true, cond_true, and_self, if_true, hy, hw, hnn, Sum.elim_inl, Sum.elim_inr, ih2]

theorem spec_PutWrite_lz2 {u0} {u2} {u3} {u4} (h0 : u0.length < 9223372036854775807) {K : q22T → Option Res} {s5 : (List dWrite)} : loopK spec_PutWrite_b2 Fuel (u0, (0 : Int), u2, u3, u4, s5) K = spec_PutWrite_w2 u0 u2 u3 u4 u0 s5 0 (fun z => K (u0, z.1, u2, u3, u4, z.2)) :=
  spec_PutWrite_lw2 h0 u0 0 s5 Fuel rfl (lwl_fuel h0)

def spec_PutWrite_t (a0 : (List dWrite)) (a1 : dWrite) (k : (List dWrite) → Option Res) : Option Res :=
  spec_PutWrite_w0 a0 a1.1 a1.2.1 a1.2.2 a0 ([] : List dWrite) 0 (fun z59 =>
    if z59.2.length + [a1].length ≤ VE.maxLen then
      spec_PutWrite_w2 a0 a1.1 a1.2.1 a1.2.2 a0 (z59.2 ++ [a1]) 0 (fun z60 =>
        k z60.2)
    else none)

theorem spec_PutWrite_r {a0 : (List dWrite)} {a1 : dWrite} (h0 : a0.length < 9223372036854775807) {k : (List dWrite) → Option Res} : spec_PutWrite_k a0 a1 k = spec_PutWrite_t a0 a1 k := by
  rw [spec_PutWrite_e]
  simp only [spec_PutWrite_d, spec_PutWrite_t, (spec_PutWrite_lz2 h0), (spec_PutWrite_lz0 h0), Sum.elim_inl, Sum.elim_inr]

def impl_Touches_w2 (u0 : (List dWrite)) (u1 : Bool) (u2 : (List dRange)) (u3 : Int) (u4 : Int) (u5 : (List dWrite)) (u8 : ByteArray) (u9 : ByteArray) : List dWrite → Nat → (((Bool × Int) ⊕ Int) → Option Res) → Option Res
  | [], i, k =>
    k (.inr (i : Int))
  | y :: l, i, k =>
    impl_InRange_k (u8, u9) y.1 (fun y1 =>
      bif y1 then
        k (.inl (true, (i : Int)))
      else
        impl_Touches_w2 u0 u1 u2 u3 u4 u5 u8 u9 l (i + 1) k)

theorem impl_Touches_lw2 {u0} {u1} {u2} {u3} {u4} {u5} {u8} {u9} (h0 : u5.length < 9223372036854775807) {K : (q18T ⊕ q18T) → Option Res} : ∀ (l : List dWrite) (i : Nat)  (n : Nat), u5.drop i = l → l.length < n → loopK impl_Touches_b2 n (u0, u1, u2, u3, u4, u5, (u5.length : Int), (i : Int), u8, u9) K = impl_Touches_w2 u0 u1 u2 u3 u4 u5 u8 u9 l  i (Sum.elim (fun z => K (.inl (u0, z.1, u2, u3, u4, u5, (u5.length : Int), z.2, u8, u9))) (fun z => K (.inr (u0, u1, u2, u3, u4, u5, (u5.length : Int), z, u8, u9)))) := by
  intro l
  induction l with
  | nil =>
    intro i  n hd hn
    have hge := lwl_nil hd
    cases n with
    | zero => exact absurd hn (Nat.not_lt_zero _)
    | succ n => simp only [loopK, impl_Touches_b2, impl_Touches_w2, hge, decide_false, cond_false, Sum.elim_inr, Sum.elim_inl]
  | cons y l ih =>
    intro i  n hd hn
    obtain ⟨hlt, hz, hd2, hw, hnn⟩ := lwl_cons hd h0
    have hy := lwl_get hd
    cases n with
    | zero => exact absurd hn (Nat.not_lt_zero _)
    | succ n =>
      have ih2 := ih (i + 1)  n hd2 (Nat.lt_of_succ_lt_succ hn)
      simp only [loopK, impl_Touches_b2, impl_Touches_w2, hlt, hz, decide_true, cond_true, and_self, if_true, hy, hw, hnn, Sum.elim_inl, Sum.elim_inr, ih2]

theorem impl_Touches_lz2 {u0} {u1} {u2} {u3} {u4} {u5} {u8} {u9} (h0 : u5.length < 9223372036854775807) {K : (q18T ⊕ q18T) → Option Res}  : loopK impl_Touches_b2 Fuel (u0, u1, u2, u3, u4, u5, (u5.length : Int), (0 : Int), u8, u9) K = impl_Touches_w2 u0 u1 u2 u3 u4 u5 u8 u9 u5  0 (Sum.elim (fun z => K (.inl (u0, z.1, u2, u3, u4, u5, (u5.length : Int), z.2, u8, u9))) (fun z => K (.inr (u0, u1, u2, u3, u4, u5, (u5.length : Int), z, u8, u9)))) :=
  impl_Touches_lw2 h0 u5 0  Fuel rfl (lwl_fuel h0)

def impl_Touches_w0 (u0 : (List dWrite)) (u1 : Bool) (u2 : (List dRange)) : List dRange → Nat → ((Int ⊕ (Bool × Int)) → Option Res) → Option Res
  | [], i, k =>
    k (.inl (i : Int))
  | y :: l, i, k =>
    impl_Touches_w2 u0 u1 u2 (u2.length : Int) (i : Int) u0 y.1 y.2 u0  0 (Sum.elim (fun z1 =>
      k (.inr (z1.1, (i : Int)))) (fun _ =>
      impl_Touches_w0 u0 u1 u2 l (i + 1) k))

theorem impl_Touches_lw0 {u0} {u1} {u2} (h0 : u2.length < 9223372036854775807) (h1 : u0.length < 9223372036854775807) {K : (q19T ⊕ q19T) → Option Res} : ∀ (l : List dRange) (i : Nat)  (n : Nat), u2.drop i = l → l.length < n → loopK impl_Touches_b0 n (u0, u1, u2, (u2.length : Int), (i : Int)) K = impl_Touches_w0 u0 u1 u2 l  i (Sum.elim (fun z => K (.inl (u0, u1, u2, (u2.length : Int), z))) (fun z => K (.inr (u0, z.1, u2, (u2.length : Int), z.2)))) := by
  intro l
  induction l with
  | nil =>
    intro i  n hd hn
    have hge := lwl_nil hd
    cases n with
    | zero => exact absurd hn (Nat.not_lt_zero _)
    | succ n => simp only [loopK, impl_Touches_b0, impl_Touches_w0, hge, decide_false, cond_false, Sum.elim_inr, Sum.elim_inl, (impl_Touches_lz2 h1)]
  | cons y l ih =>
    intro i  n hd hn
    obtain ⟨hlt, hz, hd2, hw, hnn⟩ := lwl_cons hd h0
    have hy := lwl_get hd
    cases n with
    | zero => exact absurd hn (Nat.not_lt_zero _)
    | succ n =>
      have ih2 := ih (i + 1)  n hd2 (Nat.lt_of_succ_lt_succ hn)
      simp only [loopK, impl_Touches_b0, impl_Touches_w0, hlt, hz, decide_true, cond_true, and_self, if_true, hy, hw, hnn, Sum.elim_inl, Sum.elim_inr, ih2, (impl_Touches_lz2 h1)]

theorem impl_Touches_lz0 {u0} {u1} {u2} (h0 : u2.length < 9223372036854775807) (h1 : u0.length < 9223372036854775807) {K : (q19T ⊕ q19T) → Option Res}  : loopK impl_Touches_b0 Fuel (u0, u1, u2, (u2.length : Int), (0 : Int)) K = impl_Touches_w0 u0 u1 u2 u2  0 (Sum.elim (fun z => K (.inl (u0, u1, u2, (u2.length : Int), z))) (fun z => K (.inr (u0, z.1, u2, (u2.length : Int), z.2)))) :=
  impl_Touches_lw0 h0 h1 u2 0  Fuel rfl (lwl_fuel h0)

def impl_Touches_t (a0 : (List dRange)) (a1 : (List dWrite)) (k : Bool → Option Res) : Option Res :=
  impl_Touches_w0 a1 false a0 a0  0 (Sum.elim (fun _ =>
    k false) (fun z60 =>
    k z60.1))

theorem impl_Touches_r {a0 : (List dRange)} {a1 : (List dWrite)} (h0 : a0.length < 9223372036854775807) (h1 : a1.length < 9223372036854775807) {k : Bool → Option Res} : impl_Touches_k a0 a1 k = impl_Touches_t a0 a1 k := by
  rw [impl_Touches_e]
  simp only [impl_Touches_d, impl_Touches_t, (impl_Touches_lz0 h0 h1), Sum.elim_inl, Sum.elim_inr]

def slices_IndexFunc_Txn_InOf_1_w0 (u0 : (List dTxn)) (u1 : Int) : List dTxn → Int → Int → Int → Int → (List dRange) → (List dWrite) → Bool → ByteArray → Nat → ((q43T ⊕ q42T) → Option Res) → Option Res
  | [], s4, s5, s6, s7, s8, s9, s10, s11, i, k =>
    k (.inr ((i : Int), s4, s5, s6, s7, s8, s9, s10, s11))
  | y :: l, s4, s5, s6, s7, s8, s9, s10, s11, i, k =>
    impl_InOf_1_k y s4 s5 s6 s7 s8 s9 s10 s11 (fun y1 =>
      bif y1.1 then
        k (.inl ((i : Int), (i : Int), y1.2.1, y1.2.2.1, y1.2.2.2.1, y1.2.2.2.2.1, y1.2.2.2.2.2.1, y1.2.2.2.2.2.2.1, y1.2.2.2.2.2.2.2.1, y1.2.2.2.2.2.2.2.2))
      else
        slices_IndexFunc_Txn_InOf_1_w0 u0 u1 l y1.2.1 y1.2.2.1 y1.2.2.2.1 y1.2.2.2.2.1 y1.2.2.2.2.2.1 y1.2.2.2.2.2.2.1 y1.2.2.2.2.2.2.2.1 y1.2.2.2.2.2.2.2.2 (i + 1) k)

theorem slices_IndexFunc_Txn_InOf_1_lw0 {u0} {u1} (h0 : u0.length < 9223372036854775807) {K : (q15T ⊕ q15T) → Option Res} : ∀ (l : List dTxn) (i : Nat) (s4 : Int) (s5 : Int) (s6 : Int) (s7 : Int) (s8 : (List dRange)) (s9 : (List dWrite)) (s10 : Bool) (s11 : ByteArray) (n : Nat), u0.drop i = l → l.length < n → loopK slices_IndexFunc_Txn_InOf_1_b0 n (u0, u1, (u0.length : Int), (i : Int), s4, s5, s6, s7, s8, s9, s10, s11) K = slices_IndexFunc_Txn_InOf_1_w0 u0 u1 l s4 s5 s6 s7 s8 s9 s10 s11 i (Sum.elim (fun z => K (.inl (u0, z.1, (u0.length : Int), z.2.1, z.2.2.1, z.2.2.2.1, z.2.2.2.2.1, z.2.2.2.2.2.1, z.2.2.2.2.2.2.1, z.2.2.2.2.2.2.2.1, z.2.2.2.2.2.2.2.2.1, z.2.2.2.2.2.2.2.2.2))) (fun z => K (.inr (u0, u1, (u0.length : Int), z.1, z.2.1, z.2.2.1, z.2.2.2.1, z.2.2.2.2.1, z.2.2.2.2.2.1, z.2.2.2.2.2.2.1, z.2.2.2.2.2.2.2.1, z.2.2.2.2.2.2.2.2)))) := by
  intro l
  induction l with
  | nil =>
    intro i s4 s5 s6 s7 s8 s9 s10 s11 n hd hn
    have hge := lwl_nil hd
    cases n with
    | zero => exact absurd hn (Nat.not_lt_zero _)
    | succ n => simp only [loopK, slices_IndexFunc_Txn_InOf_1_b0, slices_IndexFunc_Txn_InOf_1_w0, hge, decide_false, cond_false, Sum.elim_inr, Sum.elim_inl]
  | cons y l ih =>
    intro i s4 s5 s6 s7 s8 s9 s10 s11 n hd hn
    obtain ⟨hlt, hz, hd2, hw, hnn⟩ := lwl_cons hd h0
    have hy := lwl_get hd
    cases n with
    | zero => exact absurd hn (Nat.not_lt_zero _)
    | succ n =>
      have ih2 := fun (s4 : Int) (s5 : Int) (s6 : Int) (s7 : Int) (s8 : (List dRange)) (s9 : (List dWrite)) (s10 : Bool) (s11 : ByteArray) => ih (i + 1) s4 s5 s6 s7 s8 s9 s10 s11 n hd2 (Nat.lt_of_succ_lt_succ hn)
      simp only [loopK, slices_IndexFunc_Txn_InOf_1_b0, slices_IndexFunc_Txn_InOf_1_w0, hlt, hz, decide_true, cond_true, and_self, if_true, hy, hw, hnn, Sum.elim_inl, Sum.elim_inr, ih2]

theorem slices_IndexFunc_Txn_InOf_1_lz0 {u0} {u1} (h0 : u0.length < 9223372036854775807) {K : (q15T ⊕ q15T) → Option Res} {s4 : Int} {s5 : Int} {s6 : Int} {s7 : Int} {s8 : (List dRange)} {s9 : (List dWrite)} {s10 : Bool} {s11 : ByteArray} : loopK slices_IndexFunc_Txn_InOf_1_b0 Fuel (u0, u1, (u0.length : Int), (0 : Int), s4, s5, s6, s7, s8, s9, s10, s11) K = slices_IndexFunc_Txn_InOf_1_w0 u0 u1 u0 s4 s5 s6 s7 s8 s9 s10 s11 0 (Sum.elim (fun z => K (.inl (u0, z.1, (u0.length : Int), z.2.1, z.2.2.1, z.2.2.2.1, z.2.2.2.2.1, z.2.2.2.2.2.1, z.2.2.2.2.2.2.1, z.2.2.2.2.2.2.2.1, z.2.2.2.2.2.2.2.2.1, z.2.2.2.2.2.2.2.2.2))) (fun z => K (.inr (u0, u1, (u0.length : Int), z.1, z.2.1, z.2.2.1, z.2.2.2.1, z.2.2.2.2.1, z.2.2.2.2.2.1, z.2.2.2.2.2.2.1, z.2.2.2.2.2.2.2.1, z.2.2.2.2.2.2.2.2)))) :=
  slices_IndexFunc_Txn_InOf_1_lw0 h0 u0 0 s4 s5 s6 s7 s8 s9 s10 s11 Fuel rfl (lwl_fuel h0)

def slices_IndexFunc_Txn_InOf_1_t (a0 : (List dTxn)) (a1 : Int) (a2 : Int) (a3 : Int) (a4 : Int) (a5 : (List dRange)) (a6 : (List dWrite)) (a7 : Bool) (a8 : ByteArray) (k : q42T → Option Res) : Option Res :=
  slices_IndexFunc_Txn_InOf_1_w0 a0 (0 : Int) a0 a1 a2 a3 a4 a5 a6 a7 a8 0 (Sum.elim (fun z59 =>
    k (z59.1, z59.2.2.1, z59.2.2.2.1, z59.2.2.2.2.1, z59.2.2.2.2.2.1, z59.2.2.2.2.2.2.1, z59.2.2.2.2.2.2.2.1, z59.2.2.2.2.2.2.2.2.1, z59.2.2.2.2.2.2.2.2.2)) (fun z60 =>
    k ((-1 : Int), z60.2.1, z60.2.2.1, z60.2.2.2.1, z60.2.2.2.2.1, z60.2.2.2.2.2.1, z60.2.2.2.2.2.2.1, z60.2.2.2.2.2.2.2.1, z60.2.2.2.2.2.2.2.2)))

theorem slices_IndexFunc_Txn_InOf_1_r {a0 : (List dTxn)} {a1 : Int} {a2 : Int} {a3 : Int} {a4 : Int} {a5 : (List dRange)} {a6 : (List dWrite)} {a7 : Bool} {a8 : ByteArray} (h0 : a0.length < 9223372036854775807) {k : q42T → Option Res} : slices_IndexFunc_Txn_InOf_1_k a0 a1 a2 a3 a4 a5 a6 a7 a8 k = slices_IndexFunc_Txn_InOf_1_t a0 a1 a2 a3 a4 a5 a6 a7 a8 k := by
  rw [slices_IndexFunc_Txn_InOf_1_e]
  simp only [slices_IndexFunc_Txn_InOf_1_d, slices_IndexFunc_Txn_InOf_1_t, (slices_IndexFunc_Txn_InOf_1_lz0 h0), Sum.elim_inl, Sum.elim_inr]

def slices_IndexFunc_Txn_OutOf_1_w0 (u0 : (List dTxn)) (u1 : Int) : List dTxn → Int → Int → Int → Int → (List dRange) → (List dWrite) → Bool → ByteArray → Nat → ((q43T ⊕ q42T) → Option Res) → Option Res
  | [], s4, s5, s6, s7, s8, s9, s10, s11, i, k =>
    k (.inr ((i : Int), s4, s5, s6, s7, s8, s9, s10, s11))
  | y :: l, s4, s5, s6, s7, s8, s9, s10, s11, i, k =>
    impl_OutOf_1_k y s4 s5 s6 s7 s8 s9 s10 s11 (fun y1 =>
      bif y1.1 then
        k (.inl ((i : Int), (i : Int), y1.2.1, y1.2.2.1, y1.2.2.2.1, y1.2.2.2.2.1, y1.2.2.2.2.2.1, y1.2.2.2.2.2.2.1, y1.2.2.2.2.2.2.2.1, y1.2.2.2.2.2.2.2.2))
      else
        slices_IndexFunc_Txn_OutOf_1_w0 u0 u1 l y1.2.1 y1.2.2.1 y1.2.2.2.1 y1.2.2.2.2.1 y1.2.2.2.2.2.1 y1.2.2.2.2.2.2.1 y1.2.2.2.2.2.2.2.1 y1.2.2.2.2.2.2.2.2 (i + 1) k)

theorem slices_IndexFunc_Txn_OutOf_1_lw0 {u0} {u1} (h0 : u0.length < 9223372036854775807) {K : (q15T ⊕ q15T) → Option Res} : ∀ (l : List dTxn) (i : Nat) (s4 : Int) (s5 : Int) (s6 : Int) (s7 : Int) (s8 : (List dRange)) (s9 : (List dWrite)) (s10 : Bool) (s11 : ByteArray) (n : Nat), u0.drop i = l → l.length < n → loopK slices_IndexFunc_Txn_OutOf_1_b0 n (u0, u1, (u0.length : Int), (i : Int), s4, s5, s6, s7, s8, s9, s10, s11) K = slices_IndexFunc_Txn_OutOf_1_w0 u0 u1 l s4 s5 s6 s7 s8 s9 s10 s11 i (Sum.elim (fun z => K (.inl (u0, z.1, (u0.length : Int), z.2.1, z.2.2.1, z.2.2.2.1, z.2.2.2.2.1, z.2.2.2.2.2.1, z.2.2.2.2.2.2.1, z.2.2.2.2.2.2.2.1, z.2.2.2.2.2.2.2.2.1, z.2.2.2.2.2.2.2.2.2))) (fun z => K (.inr (u0, u1, (u0.length : Int), z.1, z.2.1, z.2.2.1, z.2.2.2.1, z.2.2.2.2.1, z.2.2.2.2.2.1, z.2.2.2.2.2.2.1, z.2.2.2.2.2.2.2.1, z.2.2.2.2.2.2.2.2)))) := by
  intro l
  induction l with
  | nil =>
    intro i s4 s5 s6 s7 s8 s9 s10 s11 n hd hn
    have hge := lwl_nil hd
    cases n with
    | zero => exact absurd hn (Nat.not_lt_zero _)
    | succ n => simp only [loopK, slices_IndexFunc_Txn_OutOf_1_b0, slices_IndexFunc_Txn_OutOf_1_w0, hge, decide_false, cond_false, Sum.elim_inr, Sum.elim_inl]
  | cons y l ih =>
    intro i s4 s5 s6 s7 s8 s9 s10 s11 n hd hn
    obtain ⟨hlt, hz, hd2, hw, hnn⟩ := lwl_cons hd h0
    have hy := lwl_get hd
    cases n with
    | zero => exact absurd hn (Nat.not_lt_zero _)
    | succ n =>
      have ih2 := fun (s4 : Int) (s5 : Int) (s6 : Int) (s7 : Int) (s8 : (List dRange)) (s9 : (List dWrite)) (s10 : Bool) (s11 : ByteArray) => ih (i + 1) s4 s5 s6 s7 s8 s9 s10 s11 n hd2 (Nat.lt_of_succ_lt_succ hn)
      simp only [loopK, slices_IndexFunc_Txn_OutOf_1_b0, slices_IndexFunc_Txn_OutOf_1_w0, hlt, hz, decide_true, cond_true, and_self, if_true, hy, hw, hnn, Sum.elim_inl, Sum.elim_inr, ih2]

theorem slices_IndexFunc_Txn_OutOf_1_lz0 {u0} {u1} (h0 : u0.length < 9223372036854775807) {K : (q15T ⊕ q15T) → Option Res} {s4 : Int} {s5 : Int} {s6 : Int} {s7 : Int} {s8 : (List dRange)} {s9 : (List dWrite)} {s10 : Bool} {s11 : ByteArray} : loopK slices_IndexFunc_Txn_OutOf_1_b0 Fuel (u0, u1, (u0.length : Int), (0 : Int), s4, s5, s6, s7, s8, s9, s10, s11) K = slices_IndexFunc_Txn_OutOf_1_w0 u0 u1 u0 s4 s5 s6 s7 s8 s9 s10 s11 0 (Sum.elim (fun z => K (.inl (u0, z.1, (u0.length : Int), z.2.1, z.2.2.1, z.2.2.2.1, z.2.2.2.2.1, z.2.2.2.2.2.1, z.2.2.2.2.2.2.1, z.2.2.2.2.2.2.2.1, z.2.2.2.2.2.2.2.2.1, z.2.2.2.2.2.2.2.2.2))) (fun z => K (.inr (u0, u1, (u0.length : Int), z.1, z.2.1, z.2.2.1, z.2.2.2.1, z.2.2.2.2.1, z.2.2.2.2.2.1, z.2.2.2.2.2.2.1, z.2.2.2.2.2.2.2.1, z.2.2.2.2.2.2.2.2)))) :=
  slices_IndexFunc_Txn_OutOf_1_lw0 h0 u0 0 s4 s5 s6 s7 s8 s9 s10 s11 Fuel rfl (lwl_fuel h0)

def slices_IndexFunc_Txn_OutOf_1_t (a0 : (List dTxn)) (a1 : Int) (a2 : Int) (a3 : Int) (a4 : Int) (a5 : (List dRange)) (a6 : (List dWrite)) (a7 : Bool) (a8 : ByteArray) (k : q42T → Option Res) : Option Res :=
  slices_IndexFunc_Txn_OutOf_1_w0 a0 (0 : Int) a0 a1 a2 a3 a4 a5 a6 a7 a8 0 (Sum.elim (fun z59 =>
    k (z59.1, z59.2.2.1, z59.2.2.2.1, z59.2.2.2.2.1, z59.2.2.2.2.2.1, z59.2.2.2.2.2.2.1, z59.2.2.2.2.2.2.2.1, z59.2.2.2.2.2.2.2.2.1, z59.2.2.2.2.2.2.2.2.2)) (fun z60 =>
    k ((-1 : Int), z60.2.1, z60.2.2.1, z60.2.2.2.1, z60.2.2.2.2.1, z60.2.2.2.2.2.1, z60.2.2.2.2.2.2.1, z60.2.2.2.2.2.2.2.1, z60.2.2.2.2.2.2.2.2)))

theorem slices_IndexFunc_Txn_OutOf_1_r {a0 : (List dTxn)} {a1 : Int} {a2 : Int} {a3 : Int} {a4 : Int} {a5 : (List dRange)} {a6 : (List dWrite)} {a7 : Bool} {a8 : ByteArray} (h0 : a0.length < 9223372036854775807) {k : q42T → Option Res} : slices_IndexFunc_Txn_OutOf_1_k a0 a1 a2 a3 a4 a5 a6 a7 a8 k = slices_IndexFunc_Txn_OutOf_1_t a0 a1 a2 a3 a4 a5 a6 a7 a8 k := by
  rw [slices_IndexFunc_Txn_OutOf_1_e]
  simp only [slices_IndexFunc_Txn_OutOf_1_d, slices_IndexFunc_Txn_OutOf_1_t, (slices_IndexFunc_Txn_OutOf_1_lz0 h0), Sum.elim_inl, Sum.elim_inr]

def slices_IndexFunc_Txn_Danger_1_w0 (u0 : (List dTxn)) (u1 : Int) : List dTxn → Int → Int → Int → Int → (List dRange) → (List dWrite) → Bool → ByteArray → Nat → ((q43T ⊕ q42T) → Option Res) → Option Res
  | [], s4, s5, s6, s7, s8, s9, s10, s11, i, k =>
    k (.inr ((i : Int), s4, s5, s6, s7, s8, s9, s10, s11))
  | y :: l, s4, s5, s6, s7, s8, s9, s10, s11, i, k =>
    impl_Danger_1_k y s4 s5 s6 s7 s8 s9 s10 s11 (fun y1 =>
      bif y1.1 then
        k (.inl ((i : Int), (i : Int), y1.2.1, y1.2.2.1, y1.2.2.2.1, y1.2.2.2.2.1, y1.2.2.2.2.2.1, y1.2.2.2.2.2.2.1, y1.2.2.2.2.2.2.2.1, y1.2.2.2.2.2.2.2.2))
      else
        slices_IndexFunc_Txn_Danger_1_w0 u0 u1 l y1.2.1 y1.2.2.1 y1.2.2.2.1 y1.2.2.2.2.1 y1.2.2.2.2.2.1 y1.2.2.2.2.2.2.1 y1.2.2.2.2.2.2.2.1 y1.2.2.2.2.2.2.2.2 (i + 1) k)

theorem slices_IndexFunc_Txn_Danger_1_lw0 {u0} {u1} (h0 : u0.length < 9223372036854775807) {K : (q15T ⊕ q15T) → Option Res} : ∀ (l : List dTxn) (i : Nat) (s4 : Int) (s5 : Int) (s6 : Int) (s7 : Int) (s8 : (List dRange)) (s9 : (List dWrite)) (s10 : Bool) (s11 : ByteArray) (n : Nat), u0.drop i = l → l.length < n → loopK slices_IndexFunc_Txn_Danger_1_b0 n (u0, u1, (u0.length : Int), (i : Int), s4, s5, s6, s7, s8, s9, s10, s11) K = slices_IndexFunc_Txn_Danger_1_w0 u0 u1 l s4 s5 s6 s7 s8 s9 s10 s11 i (Sum.elim (fun z => K (.inl (u0, z.1, (u0.length : Int), z.2.1, z.2.2.1, z.2.2.2.1, z.2.2.2.2.1, z.2.2.2.2.2.1, z.2.2.2.2.2.2.1, z.2.2.2.2.2.2.2.1, z.2.2.2.2.2.2.2.2.1, z.2.2.2.2.2.2.2.2.2))) (fun z => K (.inr (u0, u1, (u0.length : Int), z.1, z.2.1, z.2.2.1, z.2.2.2.1, z.2.2.2.2.1, z.2.2.2.2.2.1, z.2.2.2.2.2.2.1, z.2.2.2.2.2.2.2.1, z.2.2.2.2.2.2.2.2)))) := by
  intro l
  induction l with
  | nil =>
    intro i s4 s5 s6 s7 s8 s9 s10 s11 n hd hn
    have hge := lwl_nil hd
    cases n with
    | zero => exact absurd hn (Nat.not_lt_zero _)
    | succ n => simp only [loopK, slices_IndexFunc_Txn_Danger_1_b0, slices_IndexFunc_Txn_Danger_1_w0, hge, decide_false, cond_false, Sum.elim_inr, Sum.elim_inl]
  | cons y l ih =>
    intro i s4 s5 s6 s7 s8 s9 s10 s11 n hd hn
    obtain ⟨hlt, hz, hd2, hw, hnn⟩ := lwl_cons hd h0
    have hy := lwl_get hd
    cases n with
    | zero => exact absurd hn (Nat.not_lt_zero _)
    | succ n =>
      have ih2 := fun (s4 : Int) (s5 : Int) (s6 : Int) (s7 : Int) (s8 : (List dRange)) (s9 : (List dWrite)) (s10 : Bool) (s11 : ByteArray) => ih (i + 1) s4 s5 s6 s7 s8 s9 s10 s11 n hd2 (Nat.lt_of_succ_lt_succ hn)
      simp only [loopK, slices_IndexFunc_Txn_Danger_1_b0, slices_IndexFunc_Txn_Danger_1_w0, hlt, hz, decide_true, cond_true, and_self, if_true, hy, hw, hnn, Sum.elim_inl, Sum.elim_inr, ih2]

theorem slices_IndexFunc_Txn_Danger_1_lz0 {u0} {u1} (h0 : u0.length < 9223372036854775807) {K : (q15T ⊕ q15T) → Option Res} {s4 : Int} {s5 : Int} {s6 : Int} {s7 : Int} {s8 : (List dRange)} {s9 : (List dWrite)} {s10 : Bool} {s11 : ByteArray} : loopK slices_IndexFunc_Txn_Danger_1_b0 Fuel (u0, u1, (u0.length : Int), (0 : Int), s4, s5, s6, s7, s8, s9, s10, s11) K = slices_IndexFunc_Txn_Danger_1_w0 u0 u1 u0 s4 s5 s6 s7 s8 s9 s10 s11 0 (Sum.elim (fun z => K (.inl (u0, z.1, (u0.length : Int), z.2.1, z.2.2.1, z.2.2.2.1, z.2.2.2.2.1, z.2.2.2.2.2.1, z.2.2.2.2.2.2.1, z.2.2.2.2.2.2.2.1, z.2.2.2.2.2.2.2.2.1, z.2.2.2.2.2.2.2.2.2))) (fun z => K (.inr (u0, u1, (u0.length : Int), z.1, z.2.1, z.2.2.1, z.2.2.2.1, z.2.2.2.2.1, z.2.2.2.2.2.1, z.2.2.2.2.2.2.1, z.2.2.2.2.2.2.2.1, z.2.2.2.2.2.2.2.2)))) :=
  slices_IndexFunc_Txn_Danger_1_lw0 h0 u0 0 s4 s5 s6 s7 s8 s9 s10 s11 Fuel rfl (lwl_fuel h0)

def slices_IndexFunc_Txn_Danger_1_t (a0 : (List dTxn)) (a1 : Int) (a2 : Int) (a3 : Int) (a4 : Int) (a5 : (List dRange)) (a6 : (List dWrite)) (a7 : Bool) (a8 : ByteArray) (k : q42T → Option Res) : Option Res :=
  slices_IndexFunc_Txn_Danger_1_w0 a0 (0 : Int) a0 a1 a2 a3 a4 a5 a6 a7 a8 0 (Sum.elim (fun z59 =>
    k (z59.1, z59.2.2.1, z59.2.2.2.1, z59.2.2.2.2.1, z59.2.2.2.2.2.1, z59.2.2.2.2.2.2.1, z59.2.2.2.2.2.2.2.1, z59.2.2.2.2.2.2.2.2.1, z59.2.2.2.2.2.2.2.2.2)) (fun z60 =>
    k ((-1 : Int), z60.2.1, z60.2.2.1, z60.2.2.2.1, z60.2.2.2.2.1, z60.2.2.2.2.2.1, z60.2.2.2.2.2.2.1, z60.2.2.2.2.2.2.2.1, z60.2.2.2.2.2.2.2.2)))

theorem slices_IndexFunc_Txn_Danger_1_r {a0 : (List dTxn)} {a1 : Int} {a2 : Int} {a3 : Int} {a4 : Int} {a5 : (List dRange)} {a6 : (List dWrite)} {a7 : Bool} {a8 : ByteArray} (h0 : a0.length < 9223372036854775807) {k : q42T → Option Res} : slices_IndexFunc_Txn_Danger_1_k a0 a1 a2 a3 a4 a5 a6 a7 a8 k = slices_IndexFunc_Txn_Danger_1_t a0 a1 a2 a3 a4 a5 a6 a7 a8 k := by
  rw [slices_IndexFunc_Txn_Danger_1_e]
  simp only [slices_IndexFunc_Txn_Danger_1_d, slices_IndexFunc_Txn_Danger_1_t, (slices_IndexFunc_Txn_Danger_1_lz0 h0), Sum.elim_inl, Sum.elim_inr]

def slices_IndexFunc_Txn_Danger_2_1_w0 (u0 : (List dTxn)) (u1 : Int) : List dTxn → Int → Int → Int → Int → (List dRange) → (List dWrite) → Bool → ByteArray → Nat → ((q43T ⊕ q42T) → Option Res) → Option Res
  | [], s4, s5, s6, s7, s8, s9, s10, s11, i, k =>
    k (.inr ((i : Int), s4, s5, s6, s7, s8, s9, s10, s11))
  | y :: l, s4, s5, s6, s7, s8, s9, s10, s11, i, k =>
    impl_Danger_2_1_k y s4 s5 s6 s7 s8 s9 s10 s11 (fun y1 =>
      bif y1.1 then
        k (.inl ((i : Int), (i : Int), y1.2.1, y1.2.2.1, y1.2.2.2.1, y1.2.2.2.2.1, y1.2.2.2.2.2.1, y1.2.2.2.2.2.2.1, y1.2.2.2.2.2.2.2.1, y1.2.2.2.2.2.2.2.2))
      else
        slices_IndexFunc_Txn_Danger_2_1_w0 u0 u1 l y1.2.1 y1.2.2.1 y1.2.2.2.1 y1.2.2.2.2.1 y1.2.2.2.2.2.1 y1.2.2.2.2.2.2.1 y1.2.2.2.2.2.2.2.1 y1.2.2.2.2.2.2.2.2 (i + 1) k)

theorem slices_IndexFunc_Txn_Danger_2_1_lw0 {u0} {u1} (h0 : u0.length < 9223372036854775807) {K : (q15T ⊕ q15T) → Option Res} : ∀ (l : List dTxn) (i : Nat) (s4 : Int) (s5 : Int) (s6 : Int) (s7 : Int) (s8 : (List dRange)) (s9 : (List dWrite)) (s10 : Bool) (s11 : ByteArray) (n : Nat), u0.drop i = l → l.length < n → loopK slices_IndexFunc_Txn_Danger_2_1_b0 n (u0, u1, (u0.length : Int), (i : Int), s4, s5, s6, s7, s8, s9, s10, s11) K = slices_IndexFunc_Txn_Danger_2_1_w0 u0 u1 l s4 s5 s6 s7 s8 s9 s10 s11 i (Sum.elim (fun z => K (.inl (u0, z.1, (u0.length : Int), z.2.1, z.2.2.1, z.2.2.2.1, z.2.2.2.2.1, z.2.2.2.2.2.1, z.2.2.2.2.2.2.1, z.2.2.2.2.2.2.2.1, z.2.2.2.2.2.2.2.2.1, z.2.2.2.2.2.2.2.2.2))) (fun z => K (.inr (u0, u1, (u0.length : Int), z.1, z.2.1, z.2.2.1, z.2.2.2.1, z.2.2.2.2.1, z.2.2.2.2.2.1, z.2.2.2.2.2.2.1, z.2.2.2.2.2.2.2.1, z.2.2.2.2.2.2.2.2)))) := by
  intro l
  induction l with
  | nil =>
    intro i s4 s5 s6 s7 s8 s9 s10 s11 n hd hn
    have hge := lwl_nil hd
    cases n with
    | zero => exact absurd hn (Nat.not_lt_zero _)
    | succ n => simp only [loopK, slices_IndexFunc_Txn_Danger_2_1_b0, slices_IndexFunc_Txn_Danger_2_1_w0, hge, decide_false, cond_false, Sum.elim_inr, Sum.elim_inl]
  | cons y l ih =>
    intro i s4 s5 s6 s7 s8 s9 s10 s11 n hd hn
    obtain ⟨hlt, hz, hd2, hw, hnn⟩ := lwl_cons hd h0
    have hy := lwl_get hd
    cases n with
    | zero => exact absurd hn (Nat.not_lt_zero _)
    | succ n =>
      have ih2 := fun (s4 : Int) (s5 : Int) (s6 : Int) (s7 : Int) (s8 : (List dRange)) (s9 : (List dWrite)) (s10 : Bool) (s11 : ByteArray) => ih (i + 1) s4 s5 s6 s7 s8 s9 s10 s11 n hd2 (Nat.lt_of_succ_lt_succ hn)
      simp only [loopK, slices_IndexFunc_Txn_Danger_2_1_b0, slices_IndexFunc_Txn_Danger_2_1_w0, hlt, hz, decide_true, cond_true, and_self, if_true, hy, hw, hnn, Sum.elim_inl, Sum.elim_inr, ih2]

theorem slices_IndexFunc_Txn_Danger_2_1_lz0 {u0} {u1} (h0 : u0.length < 9223372036854775807) {K : (q15T ⊕ q15T) → Option Res} {s4 : Int} {s5 : Int} {s6 : Int} {s7 : Int} {s8 : (List dRange)} {s9 : (List dWrite)} {s10 : Bool} {s11 : ByteArray} : loopK slices_IndexFunc_Txn_Danger_2_1_b0 Fuel (u0, u1, (u0.length : Int), (0 : Int), s4, s5, s6, s7, s8, s9, s10, s11) K = slices_IndexFunc_Txn_Danger_2_1_w0 u0 u1 u0 s4 s5 s6 s7 s8 s9 s10 s11 0 (Sum.elim (fun z => K (.inl (u0, z.1, (u0.length : Int), z.2.1, z.2.2.1, z.2.2.2.1, z.2.2.2.2.1, z.2.2.2.2.2.1, z.2.2.2.2.2.2.1, z.2.2.2.2.2.2.2.1, z.2.2.2.2.2.2.2.2.1, z.2.2.2.2.2.2.2.2.2))) (fun z => K (.inr (u0, u1, (u0.length : Int), z.1, z.2.1, z.2.2.1, z.2.2.2.1, z.2.2.2.2.1, z.2.2.2.2.2.1, z.2.2.2.2.2.2.1, z.2.2.2.2.2.2.2.1, z.2.2.2.2.2.2.2.2)))) :=
  slices_IndexFunc_Txn_Danger_2_1_lw0 h0 u0 0 s4 s5 s6 s7 s8 s9 s10 s11 Fuel rfl (lwl_fuel h0)

def slices_IndexFunc_Txn_Danger_2_1_t (a0 : (List dTxn)) (a1 : Int) (a2 : Int) (a3 : Int) (a4 : Int) (a5 : (List dRange)) (a6 : (List dWrite)) (a7 : Bool) (a8 : ByteArray) (k : q42T → Option Res) : Option Res :=
  slices_IndexFunc_Txn_Danger_2_1_w0 a0 (0 : Int) a0 a1 a2 a3 a4 a5 a6 a7 a8 0 (Sum.elim (fun z59 =>
    k (z59.1, z59.2.2.1, z59.2.2.2.1, z59.2.2.2.2.1, z59.2.2.2.2.2.1, z59.2.2.2.2.2.2.1, z59.2.2.2.2.2.2.2.1, z59.2.2.2.2.2.2.2.2.1, z59.2.2.2.2.2.2.2.2.2)) (fun z60 =>
    k ((-1 : Int), z60.2.1, z60.2.2.1, z60.2.2.2.1, z60.2.2.2.2.1, z60.2.2.2.2.2.1, z60.2.2.2.2.2.2.1, z60.2.2.2.2.2.2.2.1, z60.2.2.2.2.2.2.2.2)))

theorem slices_IndexFunc_Txn_Danger_2_1_r {a0 : (List dTxn)} {a1 : Int} {a2 : Int} {a3 : Int} {a4 : Int} {a5 : (List dRange)} {a6 : (List dWrite)} {a7 : Bool} {a8 : ByteArray} (h0 : a0.length < 9223372036854775807) {k : q42T → Option Res} : slices_IndexFunc_Txn_Danger_2_1_k a0 a1 a2 a3 a4 a5 a6 a7 a8 k = slices_IndexFunc_Txn_Danger_2_1_t a0 a1 a2 a3 a4 a5 a6 a7 a8 k := by
  rw [slices_IndexFunc_Txn_Danger_2_1_e]
  simp only [slices_IndexFunc_Txn_Danger_2_1_d, slices_IndexFunc_Txn_Danger_2_1_t, (slices_IndexFunc_Txn_Danger_2_1_lz0 h0), Sum.elim_inl, Sum.elim_inr]

def slices_IndexFunc_Txn_Danger_2_w0 (u0 : (List dTxn)) (u1 : Int) : List dTxn → Int → Int → Int → Int → (List dRange) → (List dWrite) → Bool → ByteArray → (List dTxn) → Nat → (((Int × Int × Int × Int × Int × Int × (List dRange) × (List dWrite) × Bool × ByteArray × (List dTxn)) ⊕ q40T) → Option Res) → Option Res
  | [], s4, s5, s6, s7, s8, s9, s10, s11, s12, i, k =>
    k (.inr ((i : Int), s4, s5, s6, s7, s8, s9, s10, s11, s12))
  | y :: l, s4, s5, s6, s7, s8, s9, s10, s11, s12, i, k =>
    impl_Danger_2_k y s4 s5 s6 s7 s8 s9 s10 s11 s12 (fun y1 =>
      bif y1.1 then
        k (.inl ((i : Int), (i : Int), y1.2.1, y1.2.2.1, y1.2.2.2.1, y1.2.2.2.2.1, y1.2.2.2.2.2.1, y1.2.2.2.2.2.2.1, y1.2.2.2.2.2.2.2.1, y1.2.2.2.2.2.2.2.2.1, y1.2.2.2.2.2.2.2.2.2))
      else
        slices_IndexFunc_Txn_Danger_2_w0 u0 u1 l y1.2.1 y1.2.2.1 y1.2.2.2.1 y1.2.2.2.2.1 y1.2.2.2.2.2.1 y1.2.2.2.2.2.2.1 y1.2.2.2.2.2.2.2.1 y1.2.2.2.2.2.2.2.2.1 y1.2.2.2.2.2.2.2.2.2 (i + 1) k)

theorem slices_IndexFunc_Txn_Danger_2_lw0 {u0} {u1} (h0 : u0.length < 9223372036854775807) {K : (q13T ⊕ q13T) → Option Res} : ∀ (l : List dTxn) (i : Nat) (s4 : Int) (s5 : Int) (s6 : Int) (s7 : Int) (s8 : (List dRange)) (s9 : (List dWrite)) (s10 : Bool) (s11 : ByteArray) (s12 : (List dTxn)) (n : Nat), u0.drop i = l → l.length < n → loopK slices_IndexFunc_Txn_Danger_2_b0 n (u0, u1, (u0.length : Int), (i : Int), s4, s5, s6, s7, s8, s9, s10, s11, s12) K = slices_IndexFunc_Txn_Danger_2_w0 u0 u1 l s4 s5 s6 s7 s8 s9 s10 s11 s12 i (Sum.elim (fun z => K (.inl (u0, z.1, (u0.length : Int), z.2.1, z.2.2.1, z.2.2.2.1, z.2.2.2.2.1, z.2.2.2.2.2.1, z.2.2.2.2.2.2.1, z.2.2.2.2.2.2.2.1, z.2.2.2.2.2.2.2.2.1, z.2.2.2.2.2.2.2.2.2.1, z.2.2.2.2.2.2.2.2.2.2))) (fun z => K (.inr (u0, u1, (u0.length : Int), z.1, z.2.1, z.2.2.1, z.2.2.2.1, z.2.2.2.2.1, z.2.2.2.2.2.1, z.2.2.2.2.2.2.1, z.2.2.2.2.2.2.2.1, z.2.2.2.2.2.2.2.2.1, z.2.2.2.2.2.2.2.2.2)))) := by
  intro l
  induction l with
  | nil =>
    intro i s4 s5 s6 s7 s8 s9 s10 s11 s12 n hd hn
    have hge := lwl_nil hd
    cases n with
    | zero => exact absurd hn (Nat.not_lt_zero _)
    | succ n => simp only [loopK, slices_IndexFunc_Txn_Danger_2_b0, slices_IndexFunc_Txn_Danger_2_w0, hge, decide_false, cond_false, Sum.elim_inr, Sum.elim_inl]
  | cons y l ih =>
    intro i s4 s5 s6 s7 s8 s9 s10 s11 s12 n hd hn
    obtain ⟨hlt, hz, hd2, hw, hnn⟩ := lwl_cons hd h0
    have hy := lwl_get hd
    cases n with
    | zero => exact absurd hn (Nat.not_lt_zero _)
    | succ n =>
      have ih2 := fun (s4 : Int) (s5 : Int) (s6 : Int) (s7 : Int) (s8 : (List dRange)) (s9 : (List dWrite)) (s10 : Bool) (s11 : ByteArray) (s12 : (List dTxn)) => ih (i + 1) s4 s5 s6 s7 s8 s9 s10 s11 s12 n hd2 (Nat.lt_of_succ_lt_succ hn)
      simp only [loopK, slices_IndexFunc_Txn_Danger_2_b0, slices_IndexFunc_Txn_Danger_2_w0, hlt, hz, decide_true, cond_true, and_self, if_true, hy, hw, hnn, Sum.elim_inl, Sum.elim_inr, ih2]

theorem slices_IndexFunc_Txn_Danger_2_lz0 {u0} {u1} (h0 : u0.length < 9223372036854775807) {K : (q13T ⊕ q13T) → Option Res} {s4 : Int} {s5 : Int} {s6 : Int} {s7 : Int} {s8 : (List dRange)} {s9 : (List dWrite)} {s10 : Bool} {s11 : ByteArray} {s12 : (List dTxn)} : loopK slices_IndexFunc_Txn_Danger_2_b0 Fuel (u0, u1, (u0.length : Int), (0 : Int), s4, s5, s6, s7, s8, s9, s10, s11, s12) K = slices_IndexFunc_Txn_Danger_2_w0 u0 u1 u0 s4 s5 s6 s7 s8 s9 s10 s11 s12 0 (Sum.elim (fun z => K (.inl (u0, z.1, (u0.length : Int), z.2.1, z.2.2.1, z.2.2.2.1, z.2.2.2.2.1, z.2.2.2.2.2.1, z.2.2.2.2.2.2.1, z.2.2.2.2.2.2.2.1, z.2.2.2.2.2.2.2.2.1, z.2.2.2.2.2.2.2.2.2.1, z.2.2.2.2.2.2.2.2.2.2))) (fun z => K (.inr (u0, u1, (u0.length : Int), z.1, z.2.1, z.2.2.1, z.2.2.2.1, z.2.2.2.2.1, z.2.2.2.2.2.1, z.2.2.2.2.2.2.1, z.2.2.2.2.2.2.2.1, z.2.2.2.2.2.2.2.2.1, z.2.2.2.2.2.2.2.2.2)))) :=
  slices_IndexFunc_Txn_Danger_2_lw0 h0 u0 0 s4 s5 s6 s7 s8 s9 s10 s11 s12 Fuel rfl (lwl_fuel h0)

def slices_IndexFunc_Txn_Danger_2_t (a0 : (List dTxn)) (a1 : Int) (a2 : Int) (a3 : Int) (a4 : Int) (a5 : (List dRange)) (a6 : (List dWrite)) (a7 : Bool) (a8 : ByteArray) (a9 : (List dTxn)) (k : q40T → Option Res) : Option Res :=
  slices_IndexFunc_Txn_Danger_2_w0 a0 (0 : Int) a0 a1 a2 a3 a4 a5 a6 a7 a8 a9 0 (Sum.elim (fun z59 =>
    k (z59.1, z59.2.2.1, z59.2.2.2.1, z59.2.2.2.2.1, z59.2.2.2.2.2.1, z59.2.2.2.2.2.2.1, z59.2.2.2.2.2.2.2.1, z59.2.2.2.2.2.2.2.2.1, z59.2.2.2.2.2.2.2.2.2.1, z59.2.2.2.2.2.2.2.2.2.2)) (fun z60 =>
    k ((-1 : Int), z60.2.1, z60.2.2.1, z60.2.2.2.1, z60.2.2.2.2.1, z60.2.2.2.2.2.1, z60.2.2.2.2.2.2.1, z60.2.2.2.2.2.2.2.1, z60.2.2.2.2.2.2.2.2.1, z60.2.2.2.2.2.2.2.2.2)))

theorem slices_IndexFunc_Txn_Danger_2_r {a0 : (List dTxn)} {a1 : Int} {a2 : Int} {a3 : Int} {a4 : Int} {a5 : (List dRange)} {a6 : (List dWrite)} {a7 : Bool} {a8 : ByteArray} {a9 : (List dTxn)} (h0 : a0.length < 9223372036854775807) {k : q40T → Option Res} : slices_IndexFunc_Txn_Danger_2_k a0 a1 a2 a3 a4 a5 a6 a7 a8 a9 k = slices_IndexFunc_Txn_Danger_2_t a0 a1 a2 a3 a4 a5 a6 a7 a8 a9 k := by
  rw [slices_IndexFunc_Txn_Danger_2_e]
  simp only [slices_IndexFunc_Txn_Danger_2_d, slices_IndexFunc_Txn_Danger_2_t, (slices_IndexFunc_Txn_Danger_2_lz0 h0), Sum.elim_inl, Sum.elim_inr]

def spec_Touches_w2 (u0 : (List dRange)) (u1 : (List dWrite)) (u2 : Bool) (u3 : Int) : List dWrite → Nat → (((Bool × Int) ⊕ Int) → Option Res) → Option Res
  | [], i, k =>
    k (.inr (i : Int))
  | y :: l, i, k =>
    if 0 ≤ u3 ∧ u3 < (u0.length : Int) then
      spec_InRange_k (rd (Ty.zero tRange) u0 u3) y.1 (fun y1 =>
        bif y1 then
          k (.inl (true, (i : Int)))
        else
          spec_Touches_w2 u0 u1 u2 u3 l (i + 1) k)
    else none

theorem spec_Touches_lw2 {u0} {u1} {u2} {u3} (h0 : u1.length < 9223372036854775807) {K : (q3T ⊕ q3T) → Option Res} : ∀ (l : List dWrite) (i : Nat)  (n : Nat), u1.drop i = l → l.length < n → loopK spec_Touches_b2 n (u0, u1, u2, u3, (i : Int)) K = spec_Touches_w2 u0 u1 u2 u3 l  i (Sum.elim (fun z => K (.inl (u0, u1, z.1, u3, z.2))) (fun z => K (.inr (u0, u1, u2, u3, z)))) := by
  intro l
  induction l with
  | nil =>
    intro i  n hd hn
    have hge := lwl_nil hd
    cases n with
    | zero => exact absurd hn (Nat.not_lt_zero _)
    | succ n => simp only [loopK, spec_Touches_b2, spec_Touches_w2, hge, decide_false, cond_false, Sum.elim_inr, Sum.elim_inl]
  | cons y l ih =>
    intro i  n hd hn
    obtain ⟨hlt, hz, hd2, hw, hnn⟩ := lwl_cons hd h0
    have hy := lwl_get hd
    cases n with
    | zero => exact absurd hn (Nat.not_lt_zero _)
    | succ n =>
      have ih2 := ih (i + 1)  n hd2 (Nat.lt_of_succ_lt_succ hn)
      simp only [loopK, spec_Touches_b2, spec_Touches_w2, hlt, hz, decide_true, cond_true, and_self, if_true, hy, hw, hnn, Sum.elim_inl, Sum.elim_inr, ih2]

theorem spec_Touches_lz2 {u0} {u1} {u2} {u3} (h0 : u1.length < 9223372036854775807) {K : (q3T ⊕ q3T) → Option Res}  : loopK spec_Touches_b2 Fuel (u0, u1, u2, u3, (0 : Int)) K = spec_Touches_w2 u0 u1 u2 u3 u1  0 (Sum.elim (fun z => K (.inl (u0, u1, z.1, u3, z.2))) (fun z => K (.inr (u0, u1, u2, u3, z)))) :=
  spec_Touches_lw2 h0 u1 0  Fuel rfl (lwl_fuel h0)

def spec_Touches_w0 (u0 : (List dRange)) (u1 : (List dWrite)) (u2 : Bool) : List dRange → Nat → ((Int ⊕ (Bool × Int)) → Option Res) → Option Res
  | [], i, k =>
    k (.inl (i : Int))
  | y :: l, i, k =>
    spec_Touches_w2 u0 u1 u2 (i : Int) u1  0 (Sum.elim (fun z1 =>
      k (.inr (z1.1, (i : Int)))) (fun _ =>
      spec_Touches_w0 u0 u1 u2 l (i + 1) k))

theorem spec_Touches_lw0 {u0} {u1} {u2} (h0 : u0.length < 9223372036854775807) (h1 : u1.length < 9223372036854775807) {K : (q4T ⊕ q4T) → Option Res} : ∀ (l : List dRange) (i : Nat)  (n : Nat), u0.drop i = l → l.length < n → loopK spec_Touches_b0 n (u0, u1, u2, (i : Int)) K = spec_Touches_w0 u0 u1 u2 l  i (Sum.elim (fun z => K (.inl (u0, u1, u2, z))) (fun z => K (.inr (u0, u1, z.1, z.2)))) := by
  intro l
  induction l with
  | nil =>
    intro i  n hd hn
    have hge := lwl_nil hd
    cases n with
    | zero => exact absurd hn (Nat.not_lt_zero _)
    | succ n => simp only [loopK, spec_Touches_b0, spec_Touches_w0, hge, decide_false, cond_false, Sum.elim_inr, Sum.elim_inl, (spec_Touches_lz2 h1)]
  | cons y l ih =>
    intro i  n hd hn
    obtain ⟨hlt, hz, hd2, hw, hnn⟩ := lwl_cons hd h0
    have hy := lwl_get hd
    cases n with
    | zero => exact absurd hn (Nat.not_lt_zero _)
    | succ n =>
      have ih2 := ih (i + 1)  n hd2 (Nat.lt_of_succ_lt_succ hn)
      simp only [loopK, spec_Touches_b0, spec_Touches_w0, hlt, hz, decide_true, cond_true, and_self, if_true, hy, hw, hnn, Sum.elim_inl, Sum.elim_inr, ih2, (spec_Touches_lz2 h1)]

theorem spec_Touches_lz0 {u0} {u1} {u2} (h0 : u0.length < 9223372036854775807) (h1 : u1.length < 9223372036854775807) {K : (q4T ⊕ q4T) → Option Res}  : loopK spec_Touches_b0 Fuel (u0, u1, u2, (0 : Int)) K = spec_Touches_w0 u0 u1 u2 u0  0 (Sum.elim (fun z => K (.inl (u0, u1, u2, z))) (fun z => K (.inr (u0, u1, z.1, z.2)))) :=
  spec_Touches_lw0 h0 h1 u0 0  Fuel rfl (lwl_fuel h0)

def spec_Touches_t (a0 : (List dRange)) (a1 : (List dWrite)) (k : Bool → Option Res) : Option Res :=
  spec_Touches_w0 a0 a1 false a0  0 (Sum.elim (fun _ =>
    k false) (fun z60 =>
    k z60.1))

theorem spec_Touches_r {a0 : (List dRange)} {a1 : (List dWrite)} (h0 : a0.length < 9223372036854775807) (h1 : a1.length < 9223372036854775807) {k : Bool → Option Res} : spec_Touches_k a0 a1 k = spec_Touches_t a0 a1 k := by
  rw [spec_Touches_e]
  simp only [spec_Touches_d, spec_Touches_t, (spec_Touches_lz0 h0 h1), Sum.elim_inl, Sum.elim_inr]

def spec_InOf_w0 (u0 : (List dTxn)) (u1 : Bool) (u3 : Int) (u4 : Int) (u5 : Int) (u6 : Int) (u7 : (List dRange)) (u8 : (List dWrite)) (u9 : Bool) (u10 : ByteArray) : List dTxn → Nat → (((Bool × Int) ⊕ Int) → Option Res) → Option Res
  | [], i, k =>
    k (.inr (i : Int))
  | y :: l, i, k =>
    bif (y.2.1 == (2 : Int)) then
      spec_Ahead_k y (u3, (u4, (u5, (u6, (u7, (u8, (u9, u10))))))) (fun y1 =>
        bif y1 then
          k (.inl (true, (i : Int)))
        else
          spec_InOf_w0 u0 u1 u3 u4 u5 u6 u7 u8 u9 u10 l (i + 1) k)
    else
      bif (y.2.1 == (3 : Int)) then
        spec_Ahead_k y (u3, (u4, (u5, (u6, (u7, (u8, (u9, u10))))))) (fun y2 =>
          bif y2 then
            k (.inl (true, (i : Int)))
          else
            spec_InOf_w0 u0 u1 u3 u4 u5 u6 u7 u8 u9 u10 l (i + 1) k)
      else
        spec_InOf_w0 u0 u1 u3 u4 u5 u6 u7 u8 u9 u10 l (i + 1) k

theorem spec_InOf_lw0 {u0} {u1} {u3} {u4} {u5} {u6} {u7} {u8} {u9} {u10} (h0 : u0.length < 9223372036854775807) {K : (q10T ⊕ q10T) → Option Res} : ∀ (l : List dTxn) (i : Nat)  (n : Nat), u0.drop i = l → l.length < n → loopK spec_InOf_b0 n (u0, u1, (i : Int), u3, u4, u5, u6, u7, u8, u9, u10) K = spec_InOf_w0 u0 u1 u3 u4 u5 u6 u7 u8 u9 u10 l  i (Sum.elim (fun z => K (.inl (u0, z.1, z.2, u3, u4, u5, u6, u7, u8, u9, u10))) (fun z => K (.inr (u0, u1, z, u3, u4, u5, u6, u7, u8, u9, u10)))) := by
  intro l
  induction l with
  | nil =>
    intro i  n hd hn
    have hge := lwl_nil hd
    cases n with
    | zero => exact absurd hn (Nat.not_lt_zero _)
    | succ n => simp only [loopK, spec_InOf_b0, spec_InOf_w0, hge, decide_false, cond_false, Sum.elim_inr, Sum.elim_inl]
  | cons y l ih =>
    intro i  n hd hn
    obtain ⟨hlt, hz, hd2, hw, hnn⟩ := lwl_cons hd h0
    have hy := lwl_get hd
    cases n with
    | zero => exact absurd hn (Nat.not_lt_zero _)
    | succ n =>
      have ih2 := ih (i + 1)  n hd2 (Nat.lt_of_succ_lt_succ hn)
      simp only [loopK, spec_InOf_b0, spec_InOf_w0, hlt, hz, decide_true, cond_true, and_self, if_true, hy, hw, hnn, Sum.elim_inl, Sum.elim_inr, ih2]

theorem spec_InOf_lz0 {u0} {u1} {u3} {u4} {u5} {u6} {u7} {u8} {u9} {u10} (h0 : u0.length < 9223372036854775807) {K : (q10T ⊕ q10T) → Option Res}  : loopK spec_InOf_b0 Fuel (u0, u1, (0 : Int), u3, u4, u5, u6, u7, u8, u9, u10) K = spec_InOf_w0 u0 u1 u3 u4 u5 u6 u7 u8 u9 u10 u0  0 (Sum.elim (fun z => K (.inl (u0, z.1, z.2, u3, u4, u5, u6, u7, u8, u9, u10))) (fun z => K (.inr (u0, u1, z, u3, u4, u5, u6, u7, u8, u9, u10)))) :=
  spec_InOf_lw0 h0 u0 0  Fuel rfl (lwl_fuel h0)

def spec_InOf_t (a0 : dTxn) (a1 : (List dTxn)) (k : Bool → Option Res) : Option Res :=
  spec_InOf_w0 a1 false a0.1 a0.2.1 a0.2.2.1 a0.2.2.2.1 a0.2.2.2.2.1 a0.2.2.2.2.2.1 a0.2.2.2.2.2.2.1 a0.2.2.2.2.2.2.2 a1  0 (Sum.elim (fun z59 =>
    k z59.1) (fun _ =>
    k false))

theorem spec_InOf_r {a0 : dTxn} {a1 : (List dTxn)} (h0 : a1.length < 9223372036854775807) {k : Bool → Option Res} : spec_InOf_k a0 a1 k = spec_InOf_t a0 a1 k := by
  rw [spec_InOf_e]
  simp only [spec_InOf_d, spec_InOf_t, (spec_InOf_lz0 h0), Sum.elim_inl, Sum.elim_inr]

def spec_OutOf_w0 (u0 : (List dTxn)) (u1 : Bool) (u3 : Int) (u4 : Int) (u5 : Int) (u6 : Int) (u7 : (List dRange)) (u8 : (List dWrite)) (u9 : Bool) (u10 : ByteArray) : List dTxn → Nat → (((Bool × Int) ⊕ Int) → Option Res) → Option Res
  | [], i, k =>
    k (.inr (i : Int))
  | y :: l, i, k =>
    bif (y.2.1 == (3 : Int)) then
      spec_Ahead_k (u3, (u4, (u5, (u6, (u7, (u8, (u9, u10))))))) y (fun y1 =>
        bif y1 then
          k (.inl (true, (i : Int)))
        else
          spec_OutOf_w0 u0 u1 u3 u4 u5 u6 u7 u8 u9 u10 l (i + 1) k)
    else
      spec_OutOf_w0 u0 u1 u3 u4 u5 u6 u7 u8 u9 u10 l (i + 1) k

theorem spec_OutOf_lw0 {u0} {u1} {u3} {u4} {u5} {u6} {u7} {u8} {u9} {u10} (h0 : u0.length < 9223372036854775807) {K : (q10T ⊕ q10T) → Option Res} : ∀ (l : List dTxn) (i : Nat)  (n : Nat), u0.drop i = l → l.length < n → loopK spec_OutOf_b0 n (u0, u1, (i : Int), u3, u4, u5, u6, u7, u8, u9, u10) K = spec_OutOf_w0 u0 u1 u3 u4 u5 u6 u7 u8 u9 u10 l  i (Sum.elim (fun z => K (.inl (u0, z.1, z.2, u3, u4, u5, u6, u7, u8, u9, u10))) (fun z => K (.inr (u0, u1, z, u3, u4, u5, u6, u7, u8, u9, u10)))) := by
  intro l
  induction l with
  | nil =>
    intro i  n hd hn
    have hge := lwl_nil hd
    cases n with
    | zero => exact absurd hn (Nat.not_lt_zero _)
    | succ n => simp only [loopK, spec_OutOf_b0, spec_OutOf_w0, hge, decide_false, cond_false, Sum.elim_inr, Sum.elim_inl]
  | cons y l ih =>
    intro i  n hd hn
    obtain ⟨hlt, hz, hd2, hw, hnn⟩ := lwl_cons hd h0
    have hy := lwl_get hd
    cases n with
    | zero => exact absurd hn (Nat.not_lt_zero _)
    | succ n =>
      have ih2 := ih (i + 1)  n hd2 (Nat.lt_of_succ_lt_succ hn)
      simp only [loopK, spec_OutOf_b0, spec_OutOf_w0, hlt, hz, decide_true, cond_true, and_self, if_true, hy, hw, hnn, Sum.elim_inl, Sum.elim_inr, ih2]

theorem spec_OutOf_lz0 {u0} {u1} {u3} {u4} {u5} {u6} {u7} {u8} {u9} {u10} (h0 : u0.length < 9223372036854775807) {K : (q10T ⊕ q10T) → Option Res}  : loopK spec_OutOf_b0 Fuel (u0, u1, (0 : Int), u3, u4, u5, u6, u7, u8, u9, u10) K = spec_OutOf_w0 u0 u1 u3 u4 u5 u6 u7 u8 u9 u10 u0  0 (Sum.elim (fun z => K (.inl (u0, z.1, z.2, u3, u4, u5, u6, u7, u8, u9, u10))) (fun z => K (.inr (u0, u1, z, u3, u4, u5, u6, u7, u8, u9, u10)))) :=
  spec_OutOf_lw0 h0 u0 0  Fuel rfl (lwl_fuel h0)

def spec_OutOf_t (a0 : dTxn) (a1 : (List dTxn)) (k : Bool → Option Res) : Option Res :=
  spec_OutOf_w0 a1 false a0.1 a0.2.1 a0.2.2.1 a0.2.2.2.1 a0.2.2.2.2.1 a0.2.2.2.2.2.1 a0.2.2.2.2.2.2.1 a0.2.2.2.2.2.2.2 a1  0 (Sum.elim (fun z59 =>
    k z59.1) (fun _ =>
    k false))

theorem spec_OutOf_r {a0 : dTxn} {a1 : (List dTxn)} (h0 : a1.length < 9223372036854775807) {k : Bool → Option Res} : spec_OutOf_k a0 a1 k = spec_OutOf_t a0 a1 k := by
  rw [spec_OutOf_e]
  simp only [spec_OutOf_d, spec_OutOf_t, (spec_OutOf_lz0 h0), Sum.elim_inl, Sum.elim_inr]

def slices_IndexFunc_Txn_ReadyDanger_1_w0 (u0 : (List dTxn)) (u1 : Int) : List dTxn → Int → Int → Int → Int → (List dRange) → (List dWrite) → Bool → ByteArray → Nat → ((q43T ⊕ q42T) → Option Res) → Option Res
  | [], s4, s5, s6, s7, s8, s9, s10, s11, i, k =>
    k (.inr ((i : Int), s4, s5, s6, s7, s8, s9, s10, s11))
  | y :: l, s4, s5, s6, s7, s8, s9, s10, s11, i, k =>
    impl_ReadyDanger_1_k y s4 s5 s6 s7 s8 s9 s10 s11 (fun y1 =>
      bif y1.1 then
        k (.inl ((i : Int), (i : Int), y1.2.1, y1.2.2.1, y1.2.2.2.1, y1.2.2.2.2.1, y1.2.2.2.2.2.1, y1.2.2.2.2.2.2.1, y1.2.2.2.2.2.2.2.1, y1.2.2.2.2.2.2.2.2))
      else
        slices_IndexFunc_Txn_ReadyDanger_1_w0 u0 u1 l y1.2.1 y1.2.2.1 y1.2.2.2.1 y1.2.2.2.2.1 y1.2.2.2.2.2.1 y1.2.2.2.2.2.2.1 y1.2.2.2.2.2.2.2.1 y1.2.2.2.2.2.2.2.2 (i + 1) k)

theorem slices_IndexFunc_Txn_ReadyDanger_1_lw0 {u0} {u1} (h0 : u0.length < 9223372036854775807) {K : (q15T ⊕ q15T) → Option Res} : ∀ (l : List dTxn) (i : Nat) (s4 : Int) (s5 : Int) (s6 : Int) (s7 : Int) (s8 : (List dRange)) (s9 : (List dWrite)) (s10 : Bool) (s11 : ByteArray) (n : Nat), u0.drop i = l → l.length < n → loopK slices_IndexFunc_Txn_ReadyDanger_1_b0 n (u0, u1, (u0.length : Int), (i : Int), s4, s5, s6, s7, s8, s9, s10, s11) K = slices_IndexFunc_Txn_ReadyDanger_1_w0 u0 u1 l s4 s5 s6 s7 s8 s9 s10 s11 i (Sum.elim (fun z => K (.inl (u0, z.1, (u0.length : Int), z.2.1, z.2.2.1, z.2.2.2.1, z.2.2.2.2.1, z.2.2.2.2.2.1, z.2.2.2.2.2.2.1, z.2.2.2.2.2.2.2.1, z.2.2.2.2.2.2.2.2.1, z.2.2.2.2.2.2.2.2.2))) (fun z => K (.inr (u0, u1, (u0.length : Int), z.1, z.2.1, z.2.2.1, z.2.2.2.1, z.2.2.2.2.1, z.2.2.2.2.2.1, z.2.2.2.2.2.2.1, z.2.2.2.2.2.2.2.1, z.2.2.2.2.2.2.2.2)))) := by
  intro l
  induction l with
  | nil =>
    intro i s4 s5 s6 s7 s8 s9 s10 s11 n hd hn
    have hge := lwl_nil hd
    cases n with
    | zero => exact absurd hn (Nat.not_lt_zero _)
    | succ n => simp only [loopK, slices_IndexFunc_Txn_ReadyDanger_1_b0, slices_IndexFunc_Txn_ReadyDanger_1_w0, hge, decide_false, cond_false, Sum.elim_inr, Sum.elim_inl]
  | cons y l ih =>
    intro i s4 s5 s6 s7 s8 s9 s10 s11 n hd hn
    obtain ⟨hlt, hz, hd2, hw, hnn⟩ := lwl_cons hd h0
    have hy := lwl_get hd
    cases n with
    | zero => exact absurd hn (Nat.not_lt_zero _)
    | succ n =>
      have ih2 := fun (s4 : Int) (s5 : Int) (s6 : Int) (s7 : Int) (s8 : (List dRange)) (s9 : (List dWrite)) (s10 : Bool) (s11 : ByteArray) => ih (i + 1) s4 s5 s6 s7 s8 s9 s10 s11 n hd2 (Nat.lt_of_succ_lt_succ hn)
      simp only [loopK, slices_IndexFunc_Txn_ReadyDanger_1_b0, slices_IndexFunc_Txn_ReadyDanger_1_w0, hlt, hz, decide_true, cond_true, and_self, if_true, hy, hw, hnn, Sum.elim_inl, Sum.elim_inr, ih2]

theorem slices_IndexFunc_Txn_ReadyDanger_1_lz0 {u0} {u1} (h0 : u0.length < 9223372036854775807) {K : (q15T ⊕ q15T) → Option Res} {s4 : Int} {s5 : Int} {s6 : Int} {s7 : Int} {s8 : (List dRange)} {s9 : (List dWrite)} {s10 : Bool} {s11 : ByteArray} : loopK slices_IndexFunc_Txn_ReadyDanger_1_b0 Fuel (u0, u1, (u0.length : Int), (0 : Int), s4, s5, s6, s7, s8, s9, s10, s11) K = slices_IndexFunc_Txn_ReadyDanger_1_w0 u0 u1 u0 s4 s5 s6 s7 s8 s9 s10 s11 0 (Sum.elim (fun z => K (.inl (u0, z.1, (u0.length : Int), z.2.1, z.2.2.1, z.2.2.2.1, z.2.2.2.2.1, z.2.2.2.2.2.1, z.2.2.2.2.2.2.1, z.2.2.2.2.2.2.2.1, z.2.2.2.2.2.2.2.2.1, z.2.2.2.2.2.2.2.2.2))) (fun z => K (.inr (u0, u1, (u0.length : Int), z.1, z.2.1, z.2.2.1, z.2.2.2.1, z.2.2.2.2.1, z.2.2.2.2.2.1, z.2.2.2.2.2.2.1, z.2.2.2.2.2.2.2.1, z.2.2.2.2.2.2.2.2)))) :=
  slices_IndexFunc_Txn_ReadyDanger_1_lw0 h0 u0 0 s4 s5 s6 s7 s8 s9 s10 s11 Fuel rfl (lwl_fuel h0)

def slices_IndexFunc_Txn_ReadyDanger_1_t (a0 : (List dTxn)) (a1 : Int) (a2 : Int) (a3 : Int) (a4 : Int) (a5 : (List dRange)) (a6 : (List dWrite)) (a7 : Bool) (a8 : ByteArray) (k : q42T → Option Res) : Option Res :=
  slices_IndexFunc_Txn_ReadyDanger_1_w0 a0 (0 : Int) a0 a1 a2 a3 a4 a5 a6 a7 a8 0 (Sum.elim (fun z59 =>
    k (z59.1, z59.2.2.1, z59.2.2.2.1, z59.2.2.2.2.1, z59.2.2.2.2.2.1, z59.2.2.2.2.2.2.1, z59.2.2.2.2.2.2.2.1, z59.2.2.2.2.2.2.2.2.1, z59.2.2.2.2.2.2.2.2.2)) (fun z60 =>
    k ((-1 : Int), z60.2.1, z60.2.2.1, z60.2.2.2.1, z60.2.2.2.2.1, z60.2.2.2.2.2.1, z60.2.2.2.2.2.2.1, z60.2.2.2.2.2.2.2.1, z60.2.2.2.2.2.2.2.2)))

theorem slices_IndexFunc_Txn_ReadyDanger_1_r {a0 : (List dTxn)} {a1 : Int} {a2 : Int} {a3 : Int} {a4 : Int} {a5 : (List dRange)} {a6 : (List dWrite)} {a7 : Bool} {a8 : ByteArray} (h0 : a0.length < 9223372036854775807) {k : q42T → Option Res} : slices_IndexFunc_Txn_ReadyDanger_1_k a0 a1 a2 a3 a4 a5 a6 a7 a8 k = slices_IndexFunc_Txn_ReadyDanger_1_t a0 a1 a2 a3 a4 a5 a6 a7 a8 k := by
  rw [slices_IndexFunc_Txn_ReadyDanger_1_e]
  simp only [slices_IndexFunc_Txn_ReadyDanger_1_d, slices_IndexFunc_Txn_ReadyDanger_1_t, (slices_IndexFunc_Txn_ReadyDanger_1_lz0 h0), Sum.elim_inl, Sum.elim_inr]

def slices_IndexFunc_Txn_ReadyDanger_2_1_w0 (u0 : (List dTxn)) (u1 : Int) : List dTxn → Int → Int → Int → Int → (List dRange) → (List dWrite) → Bool → ByteArray → Int → Int → Int → Int → (List dRange) → (List dWrite) → Bool → ByteArray → Nat → (((Int × Int × Int × Int × Int × Int × (List dRange) × (List dWrite) × Bool × ByteArray × Int × Int × Int × Int × (List dRange) × (List dWrite) × Bool × ByteArray) ⊕ q41T) → Option Res) → Option Res
  | [], s4, s5, s6, s7, s8, s9, s10, s11, s12, s13, s14, s15, s16, s17, s18, s19, i, k =>
    k (.inr ((i : Int), s4, s5, s6, s7, s8, s9, s10, s11, s12, s13, s14, s15, s16, s17, s18, s19))
  | y :: l, s4, s5, s6, s7, s8, s9, s10, s11, s12, s13, s14, s15, s16, s17, s18, s19, i, k =>
    impl_ReadyDanger_2_1_k y s4 s5 s6 s7 s8 s9 s10 s11 s12 s13 s14 s15 s16 s17 s18 s19 (fun y1 =>
      bif y1.1 then
        k (.inl ((i : Int), (i : Int), y1.2.1, y1.2.2.1, y1.2.2.2.1, y1.2.2.2.2.1, y1.2.2.2.2.2.1, y1.2.2.2.2.2.2.1, y1.2.2.2.2.2.2.2.1, y1.2.2.2.2.2.2.2.2.1, y1.2.2.2.2.2.2.2.2.2.1, y1.2.2.2.2.2.2.2.2.2.2.1, y1.2.2.2.2.2.2.2.2.2.2.2.1, y1.2.2.2.2.2.2.2.2.2.2.2.2.1, y1.2.2.2.2.2.2.2.2.2.2.2.2.2.1, y1.2.2.2.2.2.2.2.2.2.2.2.2.2.2.1, y1.2.2.2.2.2.2.2.2.2.2.2.2.2.2.2.1, y1.2.2.2.2.2.2.2.2.2.2.2.2.2.2.2.2))
      else
        slices_IndexFunc_Txn_ReadyDanger_2_1_w0 u0 u1 l y1.2.1 y1.2.2.1 y1.2.2.2.1 y1.2.2.2.2.1 y1.2.2.2.2.2.1 y1.2.2.2.2.2.2.1 y1.2.2.2.2.2.2.2.1 y1.2.2.2.2.2.2.2.2.1 y1.2.2.2.2.2.2.2.2.2.1 y1.2.2.2.2.2.2.2.2.2.2.1 y1.2.2.2.2.2.2.2.2.2.2.2.1 y1.2.2.2.2.2.2.2.2.2.2.2.2.1 y1.2.2.2.2.2.2.2.2.2.2.2.2.2.1 y1.2.2.2.2.2.2.2.2.2.2.2.2.2.2.1 y1.2.2.2.2.2.2.2.2.2.2.2.2.2.2.2.1 y1.2.2.2.2.2.2.2.2.2.2.2.2.2.2.2.2 (i + 1) k)

theorem slices_IndexFunc_Txn_ReadyDanger_2_1_lw0 {u0} {u1} (h0 : u0.length < 9223372036854775807) {K : (q14T ⊕ q14T) → Option Res} : ∀ (l : List dTxn) (i : Nat) (s4 : Int) (s5 : Int) (s6 : Int) (s7 : Int) (s8 : (List dRange)) (s9 : (List dWrite)) (s10 : Bool) (s11 : ByteArray) (s12 : Int) (s13 : Int) (s14 : Int) (s15 : Int) (s16 : (List dRange)) (s17 : (List dWrite)) (s18 : Bool) (s19 : ByteArray) (n : Nat), u0.drop i = l → l.length < n → loopK slices_IndexFunc_Txn_ReadyDanger_2_1_b0 n (u0, u1, (u0.length : Int), (i : Int), s4, s5, s6, s7, s8, s9, s10, s11, s12, s13, s14, s15, s16, s17, s18, s19) K = slices_IndexFunc_Txn_ReadyDanger_2_1_w0 u0 u1 l s4 s5 s6 s7 s8 s9 s10 s11 s12 s13 s14 s15 s16 s17 s18 s19 i (Sum.elim (fun z => K (.inl (u0, z.1, (u0.length : Int), z.2.1, z.2.2.1, z.2.2.2.1, z.2.2.2.2.1, z.2.2.2.2.2.1, z.2.2.2.2.2.2.1, z.2.2.2.2.2.2.2.1, z.2.2.2.2.2.2.2.2.1, z.2.2.2.2.2.2.2.2.2.1, z.2.2.2.2.2.2.2.2.2.2.1, z.2.2.2.2.2.2.2.2.2.2.2.1, z.2.2.2.2.2.2.2.2.2.2.2.2.1, z.2.2.2.2.2.2.2.2.2.2.2.2.2.1, z.2.2.2.2.2.2.2.2.2.2.2.2.2.2.1, z.2.2.2.2.2.2.2.2.2.2.2.2.2.2.2.1, z.2.2.2.2.2.2.2.2.2.2.2.2.2.2.2.2.1, z.2.2.2.2.2.2.2.2.2.2.2.2.2.2.2.2.2))) (fun z => K (.inr (u0, u1, (u0.length : Int), z.1, z.2.1, z.2.2.1, z.2.2.2.1, z.2.2.2.2.1, z.2.2.2.2.2.1, z.2.2.2.2.2.2.1, z.2.2.2.2.2.2.2.1, z.2.2.2.2.2.2.2.2.1, z.2.2.2.2.2.2.2.2.2.1, z.2.2.2.2.2.2.2.2.2.2.1, z.2.2.2.2.2.2.2.2.2.2.2.1, z.2.2.2.2.2.2.2.2.2.2.2.2.1, z.2.2.2.2.2.2.2.2.2.2.2.2.2.1, z.2.2.2.2.2.2.2.2.2.2.2.2.2.2.1, z.2.2.2.2.2.2.2.2.2.2.2.2.2.2.2.1, z.2.2.2.2.2.2.2.2.2.2.2.2.2.2.2.2)))) := by
  intro l
  induction l with
  | nil =>
    intro i s4 s5 s6 s7 s8 s9 s10 s11 s12 s13 s14 s15 s16 s17 s18 s19 n hd hn
    have hge := lwl_nil hd
    cases n with
    | zero => exact absurd hn (Nat.not_lt_zero _)
    | succ n => simp only [loopK, slices_IndexFunc_Txn_ReadyDanger_2_1_b0, slices_IndexFunc_Txn_ReadyDanger_2_1_w0, hge, decide_false, cond_false, Sum.elim_inr, Sum.elim_inl]
  | cons y l ih =>
    intro i s4 s5 s6 s7 s8 s9 s10 s11 s12 s13 s14 s15 s16 s17 s18 s19 n hd hn
    obtain ⟨hlt, hz, hd2, hw, hnn⟩ := lwl_cons hd h0
    have hy := lwl_get hd
    cases n with
    | zero => exact absurd hn (Nat.not_lt_zero _)
    | succ n =>
      have ih2 := fun (s4 : Int) (s5 : Int) (s6 : Int) (s7 : Int) (s8 : (List dRange)) (s9 : (List dWrite)) (s10 : Bool) (s11 : ByteArray) (s12 : Int) (s13 : Int) (s14 : Int) (s15 : Int) (s16 : (List dRange)) (s17 : (List dWrite)) (s18 : Bool) (s19 : ByteArray) => ih (i + 1) s4 s5 s6 s7 s8 s9 s10 s11 s12 s13 s14 s15 s16 s17 s18 s19 n hd2 (Nat.lt_of_succ_lt_succ hn)
      simp only [loopK, slices_IndexFunc_Txn_ReadyDanger_2_1_b0, slices_IndexFunc_Txn_ReadyDanger_2_1_w0, hlt, hz, decide_true, cond_true, and_self, if_true, hy, hw, hnn, Sum.elim_inl, Sum.elim_inr, ih2]

theorem slices_IndexFunc_Txn_ReadyDanger_2_1_lz0 {u0} {u1} (h0 : u0.length < 9223372036854775807) {K : (q14T ⊕ q14T) → Option Res} {s4 : Int} {s5 : Int} {s6 : Int} {s7 : Int} {s8 : (List dRange)} {s9 : (List dWrite)} {s10 : Bool} {s11 : ByteArray} {s12 : Int} {s13 : Int} {s14 : Int} {s15 : Int} {s16 : (List dRange)} {s17 : (List dWrite)} {s18 : Bool} {s19 : ByteArray} : loopK slices_IndexFunc_Txn_ReadyDanger_2_1_b0 Fuel (u0, u1, (u0.length : Int), (0 : Int), s4, s5, s6, s7, s8, s9, s10, s11, s12, s13, s14, s15, s16, s17, s18, s19) K = slices_IndexFunc_Txn_ReadyDanger_2_1_w0 u0 u1 u0 s4 s5 s6 s7 s8 s9 s10 s11 s12 s13 s14 s15 s16 s17 s18 s19 0 (Sum.elim (fun z => K (.inl (u0, z.1, (u0.length : Int), z.2.1, z.2.2.1, z.2.2.2.1, z.2.2.2.2.1, z.2.2.2.2.2.1, z.2.2.2.2.2.2.1, z.2.2.2.2.2.2.2.1, z.2.2.2.2.2.2.2.2.1, z.2.2.2.2.2.2.2.2.2.1, z.2.2.2.2.2.2.2.2.2.2.1, z.2.2.2.2.2.2.2.2.2.2.2.1, z.2.2.2.2.2.2.2.2.2.2.2.2.1, z.2.2.2.2.2.2.2.2.2.2.2.2.2.1, z.2.2.2.2.2.2.2.2.2.2.2.2.2.2.1, z.2.2.2.2.2.2.2.2.2.2.2.2.2.2.2.1, z.2.2.2.2.2.2.2.2.2.2.2.2.2.2.2.2.1, z.2.2.2.2.2.2.2.2.2.2.2.2.2.2.2.2.2))) (fun z => K (.inr (u0, u1, (u0.length : Int), z.1, z.2.1, z.2.2.1, z.2.2.2.1, z.2.2.2.2.1, z.2.2.2.2.2.1, z.2.2.2.2.2.2.1, z.2.2.2.2.2.2.2.1, z.2.2.2.2.2.2.2.2.1, z.2.2.2.2.2.2.2.2.2.1, z.2.2.2.2.2.2.2.2.2.2.1, z.2.2.2.2.2.2.2.2.2.2.2.1, z.2.2.2.2.2.2.2.2.2.2.2.2.1, z.2.2.2.2.2.2.2.2.2.2.2.2.2.1, z.2.2.2.2.2.2.2.2.2.2.2.2.2.2.1, z.2.2.2.2.2.2.2.2.2.2.2.2.2.2.2.1, z.2.2.2.2.2.2.2.2.2.2.2.2.2.2.2.2)))) :=
  slices_IndexFunc_Txn_ReadyDanger_2_1_lw0 h0 u0 0 s4 s5 s6 s7 s8 s9 s10 s11 s12 s13 s14 s15 s16 s17 s18 s19 Fuel rfl (lwl_fuel h0)

def slices_IndexFunc_Txn_ReadyDanger_2_1_t (a0 : (List dTxn)) (a1 : Int) (a2 : Int) (a3 : Int) (a4 : Int) (a5 : (List dRange)) (a6 : (List dWrite)) (a7 : Bool) (a8 : ByteArray) (a9 : Int) (a10 : Int) (a11 : Int) (a12 : Int) (a13 : (List dRange)) (a14 : (List dWrite)) (a15 : Bool) (a16 : ByteArray) (k : q41T → Option Res) : Option Res :=
  slices_IndexFunc_Txn_ReadyDanger_2_1_w0 a0 (0 : Int) a0 a1 a2 a3 a4 a5 a6 a7 a8 a9 a10 a11 a12 a13 a14 a15 a16 0 (Sum.elim (fun z59 =>
    k (z59.1, z59.2.2.1, z59.2.2.2.1, z59.2.2.2.2.1, z59.2.2.2.2.2.1, z59.2.2.2.2.2.2.1, z59.2.2.2.2.2.2.2.1, z59.2.2.2.2.2.2.2.2.1, z59.2.2.2.2.2.2.2.2.2.1, z59.2.2.2.2.2.2.2.2.2.2.1, z59.2.2.2.2.2.2.2.2.2.2.2.1, z59.2.2.2.2.2.2.2.2.2.2.2.2.1, z59.2.2.2.2.2.2.2.2.2.2.2.2.2.1, z59.2.2.2.2.2.2.2.2.2.2.2.2.2.2.1, z59.2.2.2.2.2.2.2.2.2.2.2.2.2.2.2.1, z59.2.2.2.2.2.2.2.2.2.2.2.2.2.2.2.2.1, z59.2.2.2.2.2.2.2.2.2.2.2.2.2.2.2.2.2)) (fun z60 =>
    k ((-1 : Int), z60.2.1, z60.2.2.1, z60.2.2.2.1, z60.2.2.2.2.1, z60.2.2.2.2.2.1, z60.2.2.2.2.2.2.1, z60.2.2.2.2.2.2.2.1, z60.2.2.2.2.2.2.2.2.1, z60.2.2.2.2.2.2.2.2.2.1, z60.2.2.2.2.2.2.2.2.2.2.1, z60.2.2.2.2.2.2.2.2.2.2.2.1, z60.2.2.2.2.2.2.2.2.2.2.2.2.1, z60.2.2.2.2.2.2.2.2.2.2.2.2.2.1, z60.2.2.2.2.2.2.2.2.2.2.2.2.2.2.1, z60.2.2.2.2.2.2.2.2.2.2.2.2.2.2.2.1, z60.2.2.2.2.2.2.2.2.2.2.2.2.2.2.2.2)))

theorem slices_IndexFunc_Txn_ReadyDanger_2_1_r {a0 : (List dTxn)} {a1 : Int} {a2 : Int} {a3 : Int} {a4 : Int} {a5 : (List dRange)} {a6 : (List dWrite)} {a7 : Bool} {a8 : ByteArray} {a9 : Int} {a10 : Int} {a11 : Int} {a12 : Int} {a13 : (List dRange)} {a14 : (List dWrite)} {a15 : Bool} {a16 : ByteArray} (h0 : a0.length < 9223372036854775807) {k : q41T → Option Res} : slices_IndexFunc_Txn_ReadyDanger_2_1_k a0 a1 a2 a3 a4 a5 a6 a7 a8 a9 a10 a11 a12 a13 a14 a15 a16 k = slices_IndexFunc_Txn_ReadyDanger_2_1_t a0 a1 a2 a3 a4 a5 a6 a7 a8 a9 a10 a11 a12 a13 a14 a15 a16 k := by
  rw [slices_IndexFunc_Txn_ReadyDanger_2_1_e]
  simp only [slices_IndexFunc_Txn_ReadyDanger_2_1_d, slices_IndexFunc_Txn_ReadyDanger_2_1_t, (slices_IndexFunc_Txn_ReadyDanger_2_1_lz0 h0), Sum.elim_inl, Sum.elim_inr]

def slices_IndexFunc_Txn_ReadyDanger_2_w0 (u0 : (List dTxn)) (u1 : Int) : List dTxn → (List dTxn) → Int → Int → Int → Int → (List dRange) → (List dWrite) → Bool → ByteArray → Nat → (((Int × Int × (List dTxn) × Int × Int × Int × Int × (List dRange) × (List dWrite) × Bool × ByteArray) ⊕ q36T) → Option Res) → Option Res
  | [], s4, s5, s6, s7, s8, s9, s10, s11, s12, i, k =>
    k (.inr ((i : Int), s4, s5, s6, s7, s8, s9, s10, s11, s12))
  | y :: l, s4, s5, s6, s7, s8, s9, s10, s11, s12, i, k =>
    impl_ReadyDanger_2_k y s4 s5 s6 s7 s8 s9 s10 s11 s12 (fun y1 =>
      bif y1.1 then
        k (.inl ((i : Int), (i : Int), y1.2.1, y1.2.2.1, y1.2.2.2.1, y1.2.2.2.2.1, y1.2.2.2.2.2.1, y1.2.2.2.2.2.2.1, y1.2.2.2.2.2.2.2.1, y1.2.2.2.2.2.2.2.2.1, y1.2.2.2.2.2.2.2.2.2))
      else
        slices_IndexFunc_Txn_ReadyDanger_2_w0 u0 u1 l y1.2.1 y1.2.2.1 y1.2.2.2.1 y1.2.2.2.2.1 y1.2.2.2.2.2.1 y1.2.2.2.2.2.2.1 y1.2.2.2.2.2.2.2.1 y1.2.2.2.2.2.2.2.2.1 y1.2.2.2.2.2.2.2.2.2 (i + 1) k)

theorem slices_IndexFunc_Txn_ReadyDanger_2_lw0 {u0} {u1} (h0 : u0.length < 9223372036854775807) {K : (q12T ⊕ q12T) → Option Res} : ∀ (l : List dTxn) (i : Nat) (s4 : (List dTxn)) (s5 : Int) (s6 : Int) (s7 : Int) (s8 : Int) (s9 : (List dRange)) (s10 : (List dWrite)) (s11 : Bool) (s12 : ByteArray) (n : Nat), u0.drop i = l → l.length < n → loopK slices_IndexFunc_Txn_ReadyDanger_2_b0 n (u0, u1, (u0.length : Int), (i : Int), s4, s5, s6, s7, s8, s9, s10, s11, s12) K = slices_IndexFunc_Txn_ReadyDanger_2_w0 u0 u1 l s4 s5 s6 s7 s8 s9 s10 s11 s12 i (Sum.elim (fun z => K (.inl (u0, z.1, (u0.length : Int), z.2.1, z.2.2.1, z.2.2.2.1, z.2.2.2.2.1, z.2.2.2.2.2.1, z.2.2.2.2.2.2.1, z.2.2.2.2.2.2.2.1, z.2.2.2.2.2.2.2.2.1, z.2.2.2.2.2.2.2.2.2.1, z.2.2.2.2.2.2.2.2.2.2))) (fun z => K (.inr (u0, u1, (u0.length : Int), z.1, z.2.1, z.2.2.1, z.2.2.2.1, z.2.2.2.2.1, z.2.2.2.2.2.1, z.2.2.2.2.2.2.1, z.2.2.2.2.2.2.2.1, z.2.2.2.2.2.2.2.2.1, z.2.2.2.2.2.2.2.2.2)))) := by
  intro l
  induction l with
  | nil =>
    intro i s4 s5 s6 s7 s8 s9 s10 s11 s12 n hd hn
    have hge := lwl_nil hd
    cases n with
    | zero => exact absurd hn (Nat.not_lt_zero _)
    | succ n => simp only [loopK, slices_IndexFunc_Txn_ReadyDanger_2_b0, slices_IndexFunc_Txn_ReadyDanger_2_w0, hge, decide_false, cond_false, Sum.elim_inr, Sum.elim_inl]
  | cons y l ih =>
    intro i s4 s5 s6 s7 s8 s9 s10 s11 s12 n hd hn
    obtain ⟨hlt, hz, hd2, hw, hnn⟩ := lwl_cons hd h0
    have hy := lwl_get hd
    cases n with
    | zero => exact absurd hn (Nat.not_lt_zero _)
    | succ n =>
      have ih2 := fun (s4 : (List dTxn)) (s5 : Int) (s6 : Int) (s7 : Int) (s8 : Int) (s9 : (List dRange)) (s10 : (List dWrite)) (s11 : Bool) (s12 : ByteArray) => ih (i + 1) s4 s5 s6 s7 s8 s9 s10 s11 s12 n hd2 (Nat.lt_of_succ_lt_succ hn)
      simp only [loopK, slices_IndexFunc_Txn_ReadyDanger_2_b0, slices_IndexFunc_Txn_ReadyDanger_2_w0, hlt, hz, decide_true, cond_true, and_self, if_true, hy, hw, hnn, Sum.elim_inl, Sum.elim_inr, ih2]

theorem slices_IndexFunc_Txn_ReadyDanger_2_lz0 {u0} {u1} (h0 : u0.length < 9223372036854775807) {K : (q12T ⊕ q12T) → Option Res} {s4 : (List dTxn)} {s5 : Int} {s6 : Int} {s7 : Int} {s8 : Int} {s9 : (List dRange)} {s10 : (List dWrite)} {s11 : Bool} {s12 : ByteArray} : loopK slices_IndexFunc_Txn_ReadyDanger_2_b0 Fuel (u0, u1, (u0.length : Int), (0 : Int), s4, s5, s6, s7, s8, s9, s10, s11, s12) K = slices_IndexFunc_Txn_ReadyDanger_2_w0 u0 u1 u0 s4 s5 s6 s7 s8 s9 s10 s11 s12 0 (Sum.elim (fun z => K (.inl (u0, z.1, (u0.length : Int), z.2.1, z.2.2.1, z.2.2.2.1, z.2.2.2.2.1, z.2.2.2.2.2.1, z.2.2.2.2.2.2.1, z.2.2.2.2.2.2.2.1, z.2.2.2.2.2.2.2.2.1, z.2.2.2.2.2.2.2.2.2.1, z.2.2.2.2.2.2.2.2.2.2))) (fun z => K (.inr (u0, u1, (u0.length : Int), z.1, z.2.1, z.2.2.1, z.2.2.2.1, z.2.2.2.2.1, z.2.2.2.2.2.1, z.2.2.2.2.2.2.1, z.2.2.2.2.2.2.2.1, z.2.2.2.2.2.2.2.2.1, z.2.2.2.2.2.2.2.2.2)))) :=
  slices_IndexFunc_Txn_ReadyDanger_2_lw0 h0 u0 0 s4 s5 s6 s7 s8 s9 s10 s11 s12 Fuel rfl (lwl_fuel h0)

def slices_IndexFunc_Txn_ReadyDanger_2_t (a0 : (List dTxn)) (a1 : (List dTxn)) (a2 : Int) (a3 : Int) (a4 : Int) (a5 : Int) (a6 : (List dRange)) (a7 : (List dWrite)) (a8 : Bool) (a9 : ByteArray) (k : q36T → Option Res) : Option Res :=
  slices_IndexFunc_Txn_ReadyDanger_2_w0 a0 (0 : Int) a0 a1 a2 a3 a4 a5 a6 a7 a8 a9 0 (Sum.elim (fun z59 =>
    k (z59.1, z59.2.2.1, z59.2.2.2.1, z59.2.2.2.2.1, z59.2.2.2.2.2.1, z59.2.2.2.2.2.2.1, z59.2.2.2.2.2.2.2.1, z59.2.2.2.2.2.2.2.2.1, z59.2.2.2.2.2.2.2.2.2.1, z59.2.2.2.2.2.2.2.2.2.2)) (fun z60 =>
    k ((-1 : Int), z60.2.1, z60.2.2.1, z60.2.2.2.1, z60.2.2.2.2.1, z60.2.2.2.2.2.1, z60.2.2.2.2.2.2.1, z60.2.2.2.2.2.2.2.1, z60.2.2.2.2.2.2.2.2.1, z60.2.2.2.2.2.2.2.2.2)))

theorem slices_IndexFunc_Txn_ReadyDanger_2_r {a0 : (List dTxn)} {a1 : (List dTxn)} {a2 : Int} {a3 : Int} {a4 : Int} {a5 : Int} {a6 : (List dRange)} {a7 : (List dWrite)} {a8 : Bool} {a9 : ByteArray} (h0 : a0.length < 9223372036854775807) {k : q36T → Option Res} : slices_IndexFunc_Txn_ReadyDanger_2_k a0 a1 a2 a3 a4 a5 a6 a7 a8 a9 k = slices_IndexFunc_Txn_ReadyDanger_2_t a0 a1 a2 a3 a4 a5 a6 a7 a8 a9 k := by
  rw [slices_IndexFunc_Txn_ReadyDanger_2_e]
  simp only [slices_IndexFunc_Txn_ReadyDanger_2_d, slices_IndexFunc_Txn_ReadyDanger_2_t, (slices_IndexFunc_Txn_ReadyDanger_2_lz0 h0), Sum.elim_inl, Sum.elim_inr]

def spec_ReadyDanger_w2 (u0 : (List dTxn)) (u1 : Bool) (u2 : Bool) (u3 : Int) (u5 : Int) (u6 : Int) (u7 : Int) (u8 : Int) (u9 : (List dRange)) (u10 : (List dWrite)) (u11 : Bool) (u12 : ByteArray) (u13 : Int) (u14 : Int) (u15 : Int) (u16 : Int) (u17 : (List dRange)) (u18 : (List dWrite)) (u19 : Bool) (u20 : ByteArray) : List dTxn → Nat → (((Bool × Int) ⊕ Int) → Option Res) → Option Res
  | [], i, k =>
    k (.inr (i : Int))
  | y :: l, i, k =>
    bif (y.2.1 == (2 : Int)) then
      bif (y.1 != u5) then
        spec_Ahead_k (u13, (u14, (u15, (u16, (u17, (u18, (u19, u20))))))) y (fun y1 =>
          bif y1 then
            k (.inl (true, (i : Int)))
          else
            spec_ReadyDanger_w2 u0 u1 u2 u3 u5 u6 u7 u8 u9 u10 u11 u12 u13 u14 u15 u16 u17 u18 u19 u20 l (i + 1) k)
      else
        spec_ReadyDanger_w2 u0 u1 u2 u3 u5 u6 u7 u8 u9 u10 u11 u12 u13 u14 u15 u16 u17 u18 u19 u20 l (i + 1) k
    else
      spec_ReadyDanger_w2 u0 u1 u2 u3 u5 u6 u7 u8 u9 u10 u11 u12 u13 u14 u15 u16 u17 u18 u19 u20 l (i + 1) k

theorem spec_ReadyDanger_lw2 {u0} {u1} {u2} {u3} {u5} {u6} {u7} {u8} {u9} {u10} {u11} {u12} {u13} {u14} {u15} {u16} {u17} {u18} {u19} {u20} (h0 : u0.length < 9223372036854775807) {K : (q7T ⊕ q7T) → Option Res} : ∀ (l : List dTxn) (i : Nat)  (n : Nat), u0.drop i = l → l.length < n → loopK spec_ReadyDanger_b2 n (u0, u1, u2, u3, (i : Int), u5, u6, u7, u8, u9, u10, u11, u12, u13, u14, u15, u16, u17, u18, u19, u20) K = spec_ReadyDanger_w2 u0 u1 u2 u3 u5 u6 u7 u8 u9 u10 u11 u12 u13 u14 u15 u16 u17 u18 u19 u20 l  i (Sum.elim (fun z => K (.inl (u0, z.1, u2, u3, z.2, u5, u6, u7, u8, u9, u10, u11, u12, u13, u14, u15, u16, u17, u18, u19, u20))) (fun z => K (.inr (u0, u1, u2, u3, z, u5, u6, u7, u8, u9, u10, u11, u12, u13, u14, u15, u16, u17, u18, u19, u20)))) := by
  intro l
  induction l with
  | nil =>
    intro i  n hd hn
    have hge := lwl_nil hd
    cases n with
    | zero => exact absurd hn (Nat.not_lt_zero _)
    | succ n => simp only [loopK, spec_ReadyDanger_b2, spec_ReadyDanger_w2, hge, decide_false, cond_false, Sum.elim_inr, Sum.elim_inl]
  | cons y l ih =>
    intro i  n hd hn
    obtain ⟨hlt, hz, hd2, hw, hnn⟩ := lwl_cons hd h0
    have hy := lwl_get hd
    cases n with
    | zero => exact absurd hn (Nat.not_lt_zero _)
    | succ n =>
      have ih2 := ih (i + 1)  n hd2 (Nat.lt_of_succ_lt_succ hn)
      simp only [loopK, spec_ReadyDanger_b2, spec_ReadyDanger_w2, hlt, hz, decide_true, cond_true, and_self, if_true, hy, hw, hnn, Sum.elim_inl, Sum.elim_inr, ih2]

theorem spec_ReadyDanger_lz2 {u0} {u1} {u2} {u3} {u5} {u6} {u7} {u8} {u9} {u10} {u11} {u12} {u13} {u14} {u15} {u16} {u17} {u18} {u19} {u20} (h0 : u0.length < 9223372036854775807) {K : (q7T ⊕ q7T) → Option Res}  : loopK spec_ReadyDanger_b2 Fuel (u0, u1, u2, u3, (0 : Int), u5, u6, u7, u8, u9, u10, u11, u12, u13, u14, u15, u16, u17, u18, u19, u20) K = spec_ReadyDanger_w2 u0 u1 u2 u3 u5 u6 u7 u8 u9 u10 u11 u12 u13 u14 u15 u16 u17 u18 u19 u20 u0  0 (Sum.elim (fun z => K (.inl (u0, z.1, u2, u3, z.2, u5, u6, u7, u8, u9, u10, u11, u12, u13, u14, u15, u16, u17, u18, u19, u20))) (fun z => K (.inr (u0, u1, u2, u3, z, u5, u6, u7, u8, u9, u10, u11, u12, u13, u14, u15, u16, u17, u18, u19, u20)))) :=
  spec_ReadyDanger_lw2 h0 u0 0  Fuel rfl (lwl_fuel h0)

def spec_ReadyDanger_wj5000009 (u0 : (List dTxn)) (u1 : Bool) (u2 : Bool) (u3 : Int) (u4 : Int) (u5 : Int) (u6 : Int) (u7 : Int) (u8 : (List dRange)) (u9 : (List dWrite)) (u10 : Bool) (u11 : ByteArray) (u12 : Int) (u13 : Int) (u14 : Int) (u15 : Int) (u16 : (List dRange)) (u17 : (List dWrite)) (u18 : Bool) (u19 : ByteArray) (k : (Bool ⊕ Unit) → Option Res) : Option Res :=
    bif u2 then
      k (.inl true)
    else
      spec_ReadyDanger_w2 u0 u1 u2 u3 u4 u5 u6 u7 u8 u9 u10 u11 u12 u13 u14 u15 u16 u17 u18 u19 u0  0 (Sum.elim (fun z1 =>
        k (.inl z1.1)) (fun _ =>
        k (.inr ())))

theorem spec_ReadyDanger_wz5000009 {u0} {u1} {u2} {u3} {u4} {u5} {u6} {u7} {u8} {u9} {u10} {u11} {u12} {u13} {u14} {u15} {u16} {u17} {u18} {u19} (h0 : u0.length < 9223372036854775807) {K : (q5T ⊕ q5T) → Option Res} : spec_ReadyDanger_j5000009 (u0, u1, u2, u3, u4, u5, u6, u7, u8, u9, u10, u11, u12, u13, u14, u15, u16, u17, u18, u19) K = spec_ReadyDanger_wj5000009 u0 u1 u2 u3 u4 u5 u6 u7 u8 u9 u10 u11 u12 u13 u14 u15 u16 u17 u18 u19 (Sum.elim (fun z => K (.inl (u0, z, u2, u3, u4, u5, u6, u7, u8, u9, u10, u11, u12, u13, u14, u15, u16, u17, u18, u19))) (fun _ => K (.inr (u0, u1, u2, u3, u4, u5, u6, u7, u8, u9, u10, u11, u12, u13, u14, u15, u16, u17, u18, u19)))) := by
  simp only [spec_ReadyDanger_j5000009, spec_ReadyDanger_wj5000009, (spec_ReadyDanger_lz2 h0), Sum.elim_inl, Sum.elim_inr]

def spec_ReadyDanger_w0 (u0 : (List dTxn)) (u1 : Bool) (u2 : Bool) (u4 : Int) (u5 : Int) (u6 : Int) (u7 : Int) (u8 : (List dRange)) (u9 : (List dWrite)) (u10 : Bool) (u11 : ByteArray) : List dTxn → Nat → ((Int ⊕ (Bool × Int)) → Option Res) → Option Res
  | [], i, k =>
    k (.inl (i : Int))
  | y :: l, i, k =>
    bif (y.2.1 != (2 : Int)) then
      spec_ReadyDanger_w0 u0 u1 u2 u4 u5 u6 u7 u8 u9 u10 u11 l (i + 1) k
    else
      spec_Ahead_k (u4, (u5, (u6, (u7, (u8, (u9, (u10, u11))))))) y (fun y1 =>
        bif (!y1) then
          spec_ReadyDanger_w0 u0 u1 u2 u4 u5 u6 u7 u8 u9 u10 u11 l (i + 1) k
        else
          spec_ReadyDanger_wj5000009 u0 u1 u2 (i : Int) u4 u5 u6 u7 u8 u9 u10 u11 y.1 y.2.1 y.2.2.1 y.2.2.2.1 y.2.2.2.2.1 y.2.2.2.2.2.1 y.2.2.2.2.2.2.1 y.2.2.2.2.2.2.2 (Sum.elim (fun z2 =>
            k (.inr (z2, (i : Int)))) (fun _ =>
            spec_ReadyDanger_w0 u0 u1 u2 u4 u5 u6 u7 u8 u9 u10 u11 l (i + 1) k)))

theorem spec_ReadyDanger_lw0 {u0} {u1} {u2} {u4} {u5} {u6} {u7} {u8} {u9} {u10} {u11} (h0 : u0.length < 9223372036854775807) {K : (q6T ⊕ q6T) → Option Res} : ∀ (l : List dTxn) (i : Nat)  (n : Nat), u0.drop i = l → l.length < n → loopK spec_ReadyDanger_b0 n (u0, u1, u2, (i : Int), u4, u5, u6, u7, u8, u9, u10, u11) K = spec_ReadyDanger_w0 u0 u1 u2 u4 u5 u6 u7 u8 u9 u10 u11 l  i (Sum.elim (fun z => K (.inl (u0, u1, u2, z, u4, u5, u6, u7, u8, u9, u10, u11))) (fun z => K (.inr (u0, z.1, u2, z.2, u4, u5, u6, u7, u8, u9, u10, u11)))) := by
  intro l
  induction l with
  | nil =>
    intro i  n hd hn
    have hge := lwl_nil hd
    cases n with
    | zero => exact absurd hn (Nat.not_lt_zero _)
    | succ n => simp only [loopK, spec_ReadyDanger_b0, spec_ReadyDanger_w0, hge, decide_false, cond_false, Sum.elim_inr, Sum.elim_inl, (spec_ReadyDanger_wz5000009 h0)]
  | cons y l ih =>
    intro i  n hd hn
    obtain ⟨hlt, hz, hd2, hw, hnn⟩ := lwl_cons hd h0
    have hy := lwl_get hd
    cases n with
    | zero => exact absurd hn (Nat.not_lt_zero _)
    | succ n =>
      have ih2 := ih (i + 1)  n hd2 (Nat.lt_of_succ_lt_succ hn)
      simp only [loopK, spec_ReadyDanger_b0, spec_ReadyDanger_w0, hlt, hz, decide_true, cond_true, and_self, if_true, hy, hw, hnn, Sum.elim_inl, Sum.elim_inr, ih2, (spec_ReadyDanger_wz5000009 h0)]

theorem spec_ReadyDanger_lz0 {u0} {u1} {u2} {u4} {u5} {u6} {u7} {u8} {u9} {u10} {u11} (h0 : u0.length < 9223372036854775807) {K : (q6T ⊕ q6T) → Option Res}  : loopK spec_ReadyDanger_b0 Fuel (u0, u1, u2, (0 : Int), u4, u5, u6, u7, u8, u9, u10, u11) K = spec_ReadyDanger_w0 u0 u1 u2 u4 u5 u6 u7 u8 u9 u10 u11 u0  0 (Sum.elim (fun z => K (.inl (u0, u1, u2, z, u4, u5, u6, u7, u8, u9, u10, u11))) (fun z => K (.inr (u0, z.1, u2, z.2, u4, u5, u6, u7, u8, u9, u10, u11)))) :=
  spec_ReadyDanger_lw0 h0 u0 0  Fuel rfl (lwl_fuel h0)

def spec_ReadyDanger_t (a0 : dTxn) (a1 : (List dTxn)) (k : Bool → Option Res) : Option Res :=
  spec_Danger_k a0 a1 (fun y59 =>
    bif y59 then
      k true
    else
      spec_InOf_k a0 a1 (fun y60 =>
        spec_ReadyDanger_w0 a1 false y60 a0.1 a0.2.1 a0.2.2.1 a0.2.2.2.1 a0.2.2.2.2.1 a0.2.2.2.2.2.1 a0.2.2.2.2.2.2.1 a0.2.2.2.2.2.2.2 a1  0 (Sum.elim (fun _ =>
          k false) (fun z62 =>
          k z62.1))))

theorem spec_ReadyDanger_r {a0 : dTxn} {a1 : (List dTxn)} (h0 : a1.length < 9223372036854775807) {k : Bool → Option Res} : spec_ReadyDanger_k a0 a1 k = spec_ReadyDanger_t a0 a1 k := by
  rw [spec_ReadyDanger_e]
  simp only [spec_ReadyDanger_d, spec_ReadyDanger_t, (spec_ReadyDanger_lz0 h0), Sum.elim_inl, Sum.elim_inr]

def impl_Meets_w2 (u0 : (List dWrite)) (u1 : Bool) (u2 : (List dWrite)) (u3 : Int) (u4 : Int) (u5 : (List dWrite)) (u8 : ByteArray) (u9 : ByteArray) (u10 : Bool) : List dWrite → Nat → (((Bool × Int) ⊕ Int) → Option Res) → Option Res
  | [], i, k =>
    k (.inr (i : Int))
  | y :: l, i, k =>
    bif (strEq u8 (y.1)) then
      k (.inl (true, (i : Int)))
    else
      impl_Meets_w2 u0 u1 u2 u3 u4 u5 u8 u9 u10 l (i + 1) k

theorem impl_Meets_lw2 {u0} {u1} {u2} {u3} {u4} {u5} {u8} {u9} {u10} (h0 : u5.length < 9223372036854775807) {K : (q20T ⊕ q20T) → Option Res} : ∀ (l : List dWrite) (i : Nat)  (n : Nat), u5.drop i = l → l.length < n → loopK impl_Meets_b2 n (u0, u1, u2, u3, u4, u5, (u5.length : Int), (i : Int), u8, u9, u10) K = impl_Meets_w2 u0 u1 u2 u3 u4 u5 u8 u9 u10 l  i (Sum.elim (fun z => K (.inl (u0, z.1, u2, u3, u4, u5, (u5.length : Int), z.2, u8, u9, u10))) (fun z => K (.inr (u0, u1, u2, u3, u4, u5, (u5.length : Int), z, u8, u9, u10)))) := by
  intro l
  induction l with
  | nil =>
    intro i  n hd hn
    have hge := lwl_nil hd
    cases n with
    | zero => exact absurd hn (Nat.not_lt_zero _)
    | succ n => simp only [loopK, impl_Meets_b2, impl_Meets_w2, hge, decide_false, cond_false, Sum.elim_inr, Sum.elim_inl]
  | cons y l ih =>
    intro i  n hd hn
    obtain ⟨hlt, hz, hd2, hw, hnn⟩ := lwl_cons hd h0
    have hy := lwl_get hd
    cases n with
    | zero => exact absurd hn (Nat.not_lt_zero _)
    | succ n =>
      have ih2 := ih (i + 1)  n hd2 (Nat.lt_of_succ_lt_succ hn)
      simp only [loopK, impl_Meets_b2, impl_Meets_w2, hlt, hz, decide_true, cond_true, and_self, if_true, hy, hw, hnn, Sum.elim_inl, Sum.elim_inr, ih2]

theorem impl_Meets_lz2 {u0} {u1} {u2} {u3} {u4} {u5} {u8} {u9} {u10} (h0 : u5.length < 9223372036854775807) {K : (q20T ⊕ q20T) → Option Res}  : loopK impl_Meets_b2 Fuel (u0, u1, u2, u3, u4, u5, (u5.length : Int), (0 : Int), u8, u9, u10) K = impl_Meets_w2 u0 u1 u2 u3 u4 u5 u8 u9 u10 u5  0 (Sum.elim (fun z => K (.inl (u0, z.1, u2, u3, u4, u5, (u5.length : Int), z.2, u8, u9, u10))) (fun z => K (.inr (u0, u1, u2, u3, u4, u5, (u5.length : Int), z, u8, u9, u10)))) :=
  impl_Meets_lw2 h0 u5 0  Fuel rfl (lwl_fuel h0)

def impl_Meets_w0 (u0 : (List dWrite)) (u1 : Bool) (u2 : (List dWrite)) : List dWrite → Nat → ((Int ⊕ (Bool × Int)) → Option Res) → Option Res
  | [], i, k =>
    k (.inl (i : Int))
  | y :: l, i, k =>
    impl_Meets_w2 u0 u1 u2 (u2.length : Int) (i : Int) u0 y.1 y.2.1 y.2.2 u0  0 (Sum.elim (fun z1 =>
      k (.inr (z1.1, (i : Int)))) (fun _ =>
      impl_Meets_w0 u0 u1 u2 l (i + 1) k))

theorem impl_Meets_lw0 {u0} {u1} {u2} (h0 : u2.length < 9223372036854775807) (h1 : u0.length < 9223372036854775807) {K : (q21T ⊕ q21T) → Option Res} : ∀ (l : List dWrite) (i : Nat)  (n : Nat), u2.drop i = l → l.length < n → loopK impl_Meets_b0 n (u0, u1, u2, (u2.length : Int), (i : Int)) K = impl_Meets_w0 u0 u1 u2 l  i (Sum.elim (fun z => K (.inl (u0, u1, u2, (u2.length : Int), z))) (fun z => K (.inr (u0, z.1, u2, (u2.length : Int), z.2)))) := by
  intro l
  induction l with
  | nil =>
    intro i  n hd hn
    have hge := lwl_nil hd
    cases n with
    | zero => exact absurd hn (Nat.not_lt_zero _)
    | succ n => simp only [loopK, impl_Meets_b0, impl_Meets_w0, hge, decide_false, cond_false, Sum.elim_inr, Sum.elim_inl, (impl_Meets_lz2 h1)]
  | cons y l ih =>
    intro i  n hd hn
    obtain ⟨hlt, hz, hd2, hw, hnn⟩ := lwl_cons hd h0
    have hy := lwl_get hd
    cases n with
    | zero => exact absurd hn (Nat.not_lt_zero _)
    | succ n =>
      have ih2 := ih (i + 1)  n hd2 (Nat.lt_of_succ_lt_succ hn)
      simp only [loopK, impl_Meets_b0, impl_Meets_w0, hlt, hz, decide_true, cond_true, and_self, if_true, hy, hw, hnn, Sum.elim_inl, Sum.elim_inr, ih2, (impl_Meets_lz2 h1)]

theorem impl_Meets_lz0 {u0} {u1} {u2} (h0 : u2.length < 9223372036854775807) (h1 : u0.length < 9223372036854775807) {K : (q21T ⊕ q21T) → Option Res}  : loopK impl_Meets_b0 Fuel (u0, u1, u2, (u2.length : Int), (0 : Int)) K = impl_Meets_w0 u0 u1 u2 u2  0 (Sum.elim (fun z => K (.inl (u0, u1, u2, (u2.length : Int), z))) (fun z => K (.inr (u0, z.1, u2, (u2.length : Int), z.2)))) :=
  impl_Meets_lw0 h0 h1 u2 0  Fuel rfl (lwl_fuel h0)

def impl_Meets_t (a0 : (List dWrite)) (a1 : (List dWrite)) (k : Bool → Option Res) : Option Res :=
  impl_Meets_w0 a1 false a0 a0  0 (Sum.elim (fun _ =>
    k false) (fun z60 =>
    k z60.1))

theorem impl_Meets_r {a0 : (List dWrite)} {a1 : (List dWrite)} (h0 : a0.length < 9223372036854775807) (h1 : a1.length < 9223372036854775807) {k : Bool → Option Res} : impl_Meets_k a0 a1 k = impl_Meets_t a0 a1 k := by
  rw [impl_Meets_e]
  simp only [impl_Meets_d, impl_Meets_t, (impl_Meets_lz0 h0 h1), Sum.elim_inl, Sum.elim_inr]

def slices_IndexFunc_Txn_Blocked_1_w0 (u0 : (List dTxn)) (u1 : Int) : List dTxn → Int → Int → Int → Int → (List dRange) → (List dWrite) → Bool → ByteArray → Nat → ((q43T ⊕ q42T) → Option Res) → Option Res
  | [], s4, s5, s6, s7, s8, s9, s10, s11, i, k =>
    k (.inr ((i : Int), s4, s5, s6, s7, s8, s9, s10, s11))
  | y :: l, s4, s5, s6, s7, s8, s9, s10, s11, i, k =>
    impl_Blocked_1_k y s4 s5 s6 s7 s8 s9 s10 s11 (fun y1 =>
      bif y1.1 then
        k (.inl ((i : Int), (i : Int), y1.2.1, y1.2.2.1, y1.2.2.2.1, y1.2.2.2.2.1, y1.2.2.2.2.2.1, y1.2.2.2.2.2.2.1, y1.2.2.2.2.2.2.2.1, y1.2.2.2.2.2.2.2.2))
      else
        slices_IndexFunc_Txn_Blocked_1_w0 u0 u1 l y1.2.1 y1.2.2.1 y1.2.2.2.1 y1.2.2.2.2.1 y1.2.2.2.2.2.1 y1.2.2.2.2.2.2.1 y1.2.2.2.2.2.2.2.1 y1.2.2.2.2.2.2.2.2 (i + 1) k)

theorem slices_IndexFunc_Txn_Blocked_1_lw0 {u0} {u1} (h0 : u0.length < 9223372036854775807) {K : (q15T ⊕ q15T) → Option Res} : ∀ (l : List dTxn) (i : Nat) (s4 : Int) (s5 : Int) (s6 : Int) (s7 : Int) (s8 : (List dRange)) (s9 : (List dWrite)) (s10 : Bool) (s11 : ByteArray) (n : Nat), u0.drop i = l → l.length < n → loopK slices_IndexFunc_Txn_Blocked_1_b0 n (u0, u1, (u0.length : Int), (i : Int), s4, s5, s6, s7, s8, s9, s10, s11) K = slices_IndexFunc_Txn_Blocked_1_w0 u0 u1 l s4 s5 s6 s7 s8 s9 s10 s11 i (Sum.elim (fun z => K (.inl (u0, z.1, (u0.length : Int), z.2.1, z.2.2.1, z.2.2.2.1, z.2.2.2.2.1, z.2.2.2.2.2.1, z.2.2.2.2.2.2.1, z.2.2.2.2.2.2.2.1, z.2.2.2.2.2.2.2.2.1, z.2.2.2.2.2.2.2.2.2))) (fun z => K (.inr (u0, u1, (u0.length : Int), z.1, z.2.1, z.2.2.1, z.2.2.2.1, z.2.2.2.2.1, z.2.2.2.2.2.1, z.2.2.2.2.2.2.1, z.2.2.2.2.2.2.2.1, z.2.2.2.2.2.2.2.2)))) := by
  intro l
  induction l with
  | nil =>
    intro i s4 s5 s6 s7 s8 s9 s10 s11 n hd hn
    have hge := lwl_nil hd
    cases n with
    | zero => exact absurd hn (Nat.not_lt_zero _)
    | succ n => simp only [loopK, slices_IndexFunc_Txn_Blocked_1_b0, slices_IndexFunc_Txn_Blocked_1_w0, hge, decide_false, cond_false, Sum.elim_inr, Sum.elim_inl]
  | cons y l ih =>
    intro i s4 s5 s6 s7 s8 s9 s10 s11 n hd hn
    obtain ⟨hlt, hz, hd2, hw, hnn⟩ := lwl_cons hd h0
    have hy := lwl_get hd
    cases n with
    | zero => exact absurd hn (Nat.not_lt_zero _)
    | succ n =>
      have ih2 := fun (s4 : Int) (s5 : Int) (s6 : Int) (s7 : Int) (s8 : (List dRange)) (s9 : (List dWrite)) (s10 : Bool) (s11 : ByteArray) => ih (i + 1) s4 s5 s6 s7 s8 s9 s10 s11 n hd2 (Nat.lt_of_succ_lt_succ hn)
      simp only [loopK, slices_IndexFunc_Txn_Blocked_1_b0, slices_IndexFunc_Txn_Blocked_1_w0, hlt, hz, decide_true, cond_true, and_self, if_true, hy, hw, hnn, Sum.elim_inl, Sum.elim_inr, ih2]

theorem slices_IndexFunc_Txn_Blocked_1_lz0 {u0} {u1} (h0 : u0.length < 9223372036854775807) {K : (q15T ⊕ q15T) → Option Res} {s4 : Int} {s5 : Int} {s6 : Int} {s7 : Int} {s8 : (List dRange)} {s9 : (List dWrite)} {s10 : Bool} {s11 : ByteArray} : loopK slices_IndexFunc_Txn_Blocked_1_b0 Fuel (u0, u1, (u0.length : Int), (0 : Int), s4, s5, s6, s7, s8, s9, s10, s11) K = slices_IndexFunc_Txn_Blocked_1_w0 u0 u1 u0 s4 s5 s6 s7 s8 s9 s10 s11 0 (Sum.elim (fun z => K (.inl (u0, z.1, (u0.length : Int), z.2.1, z.2.2.1, z.2.2.2.1, z.2.2.2.2.1, z.2.2.2.2.2.1, z.2.2.2.2.2.2.1, z.2.2.2.2.2.2.2.1, z.2.2.2.2.2.2.2.2.1, z.2.2.2.2.2.2.2.2.2))) (fun z => K (.inr (u0, u1, (u0.length : Int), z.1, z.2.1, z.2.2.1, z.2.2.2.1, z.2.2.2.2.1, z.2.2.2.2.2.1, z.2.2.2.2.2.2.1, z.2.2.2.2.2.2.2.1, z.2.2.2.2.2.2.2.2)))) :=
  slices_IndexFunc_Txn_Blocked_1_lw0 h0 u0 0 s4 s5 s6 s7 s8 s9 s10 s11 Fuel rfl (lwl_fuel h0)

def slices_IndexFunc_Txn_Blocked_1_t (a0 : (List dTxn)) (a1 : Int) (a2 : Int) (a3 : Int) (a4 : Int) (a5 : (List dRange)) (a6 : (List dWrite)) (a7 : Bool) (a8 : ByteArray) (k : q42T → Option Res) : Option Res :=
  slices_IndexFunc_Txn_Blocked_1_w0 a0 (0 : Int) a0 a1 a2 a3 a4 a5 a6 a7 a8 0 (Sum.elim (fun z59 =>
    k (z59.1, z59.2.2.1, z59.2.2.2.1, z59.2.2.2.2.1, z59.2.2.2.2.2.1, z59.2.2.2.2.2.2.1, z59.2.2.2.2.2.2.2.1, z59.2.2.2.2.2.2.2.2.1, z59.2.2.2.2.2.2.2.2.2)) (fun z60 =>
    k ((-1 : Int), z60.2.1, z60.2.2.1, z60.2.2.2.1, z60.2.2.2.2.1, z60.2.2.2.2.2.1, z60.2.2.2.2.2.2.1, z60.2.2.2.2.2.2.2.1, z60.2.2.2.2.2.2.2.2)))

theorem slices_IndexFunc_Txn_Blocked_1_r {a0 : (List dTxn)} {a1 : Int} {a2 : Int} {a3 : Int} {a4 : Int} {a5 : (List dRange)} {a6 : (List dWrite)} {a7 : Bool} {a8 : ByteArray} (h0 : a0.length < 9223372036854775807) {k : q42T → Option Res} : slices_IndexFunc_Txn_Blocked_1_k a0 a1 a2 a3 a4 a5 a6 a7 a8 k = slices_IndexFunc_Txn_Blocked_1_t a0 a1 a2 a3 a4 a5 a6 a7 a8 k := by
  rw [slices_IndexFunc_Txn_Blocked_1_e]
  simp only [slices_IndexFunc_Txn_Blocked_1_d, slices_IndexFunc_Txn_Blocked_1_t, (slices_IndexFunc_Txn_Blocked_1_lz0 h0), Sum.elim_inl, Sum.elim_inr]

def spec_Meets_w2 (u0 : (List dWrite)) (u1 : (List dWrite)) (u2 : Bool) (u3 : Int) : List dWrite → Nat → (((Bool × Int) ⊕ Int) → Option Res) → Option Res
  | [], i, k =>
    k (.inr (i : Int))
  | y :: l, i, k =>
    if 0 ≤ u3 ∧ u3 < (u0.length : Int) then
      bif (strEq ((rd (Ty.zero tWrite) u0 u3).1) (y.1)) then
        k (.inl (true, (i : Int)))
      else
        spec_Meets_w2 u0 u1 u2 u3 l (i + 1) k
    else none

theorem spec_Meets_lw2 {u0} {u1} {u2} {u3} (h0 : u1.length < 9223372036854775807) {K : (q16T ⊕ q16T) → Option Res} : ∀ (l : List dWrite) (i : Nat)  (n : Nat), u1.drop i = l → l.length < n → loopK spec_Meets_b2 n (u0, u1, u2, u3, (i : Int)) K = spec_Meets_w2 u0 u1 u2 u3 l  i (Sum.elim (fun z => K (.inl (u0, u1, z.1, u3, z.2))) (fun z => K (.inr (u0, u1, u2, u3, z)))) := by
  intro l
  induction l with
  | nil =>
    intro i  n hd hn
    have hge := lwl_nil hd
    cases n with
    | zero => exact absurd hn (Nat.not_lt_zero _)
    | succ n => simp only [loopK, spec_Meets_b2, spec_Meets_w2, hge, decide_false, cond_false, Sum.elim_inr, Sum.elim_inl]
  | cons y l ih =>
    intro i  n hd hn
    obtain ⟨hlt, hz, hd2, hw, hnn⟩ := lwl_cons hd h0
    have hy := lwl_get hd
    cases n with
    | zero => exact absurd hn (Nat.not_lt_zero _)
    | succ n =>
      have ih2 := ih (i + 1)  n hd2 (Nat.lt_of_succ_lt_succ hn)
      simp only [loopK, spec_Meets_b2, spec_Meets_w2, hlt, hz, decide_true, cond_true, and_self, if_true, hy, hw, hnn, Sum.elim_inl, Sum.elim_inr, ih2]

theorem spec_Meets_lz2 {u0} {u1} {u2} {u3} (h0 : u1.length < 9223372036854775807) {K : (q16T ⊕ q16T) → Option Res}  : loopK spec_Meets_b2 Fuel (u0, u1, u2, u3, (0 : Int)) K = spec_Meets_w2 u0 u1 u2 u3 u1  0 (Sum.elim (fun z => K (.inl (u0, u1, z.1, u3, z.2))) (fun z => K (.inr (u0, u1, u2, u3, z)))) :=
  spec_Meets_lw2 h0 u1 0  Fuel rfl (lwl_fuel h0)

def spec_Meets_w0 (u0 : (List dWrite)) (u1 : (List dWrite)) (u2 : Bool) : List dWrite → Nat → ((Int ⊕ (Bool × Int)) → Option Res) → Option Res
  | [], i, k =>
    k (.inl (i : Int))
  | y :: l, i, k =>
    spec_Meets_w2 u0 u1 u2 (i : Int) u1  0 (Sum.elim (fun z1 =>
      k (.inr (z1.1, (i : Int)))) (fun _ =>
      spec_Meets_w0 u0 u1 u2 l (i + 1) k))

theorem spec_Meets_lw0 {u0} {u1} {u2} (h0 : u0.length < 9223372036854775807) (h1 : u1.length < 9223372036854775807) {K : (q17T ⊕ q17T) → Option Res} : ∀ (l : List dWrite) (i : Nat)  (n : Nat), u0.drop i = l → l.length < n → loopK spec_Meets_b0 n (u0, u1, u2, (i : Int)) K = spec_Meets_w0 u0 u1 u2 l  i (Sum.elim (fun z => K (.inl (u0, u1, u2, z))) (fun z => K (.inr (u0, u1, z.1, z.2)))) := by
  intro l
  induction l with
  | nil =>
    intro i  n hd hn
    have hge := lwl_nil hd
    cases n with
    | zero => exact absurd hn (Nat.not_lt_zero _)
    | succ n => simp only [loopK, spec_Meets_b0, spec_Meets_w0, hge, decide_false, cond_false, Sum.elim_inr, Sum.elim_inl, (spec_Meets_lz2 h1)]
  | cons y l ih =>
    intro i  n hd hn
    obtain ⟨hlt, hz, hd2, hw, hnn⟩ := lwl_cons hd h0
    have hy := lwl_get hd
    cases n with
    | zero => exact absurd hn (Nat.not_lt_zero _)
    | succ n =>
      have ih2 := ih (i + 1)  n hd2 (Nat.lt_of_succ_lt_succ hn)
      simp only [loopK, spec_Meets_b0, spec_Meets_w0, hlt, hz, decide_true, cond_true, and_self, if_true, hy, hw, hnn, Sum.elim_inl, Sum.elim_inr, ih2, (spec_Meets_lz2 h1)]

theorem spec_Meets_lz0 {u0} {u1} {u2} (h0 : u0.length < 9223372036854775807) (h1 : u1.length < 9223372036854775807) {K : (q17T ⊕ q17T) → Option Res}  : loopK spec_Meets_b0 Fuel (u0, u1, u2, (0 : Int)) K = spec_Meets_w0 u0 u1 u2 u0  0 (Sum.elim (fun z => K (.inl (u0, u1, u2, z))) (fun z => K (.inr (u0, u1, z.1, z.2)))) :=
  spec_Meets_lw0 h0 h1 u0 0  Fuel rfl (lwl_fuel h0)

def spec_Meets_t (a0 : (List dWrite)) (a1 : (List dWrite)) (k : Bool → Option Res) : Option Res :=
  spec_Meets_w0 a0 a1 false a0  0 (Sum.elim (fun _ =>
    k false) (fun z60 =>
    k z60.1))

theorem spec_Meets_r {a0 : (List dWrite)} {a1 : (List dWrite)} (h0 : a0.length < 9223372036854775807) (h1 : a1.length < 9223372036854775807) {k : Bool → Option Res} : spec_Meets_k a0 a1 k = spec_Meets_t a0 a1 k := by
  rw [spec_Meets_e]
  simp only [spec_Meets_d, spec_Meets_t, (spec_Meets_lz0 h0 h1), Sum.elim_inl, Sum.elim_inr]

def spec_Blocked_w0 (u0 : (List dTxn)) (u1 : Bool) (u3 : Int) (u4 : Int) (u5 : Int) (u6 : Int) (u7 : (List dRange)) (u8 : (List dWrite)) (u9 : Bool) (u10 : ByteArray) : List dTxn → Nat → (((Bool × Int) ⊕ Int) → Option Res) → Option Res
  | [], i, k =>
    k (.inr (i : Int))
  | y :: l, i, k =>
    bif (y.1 != u3) then
      bif (y.2.1 == (2 : Int)) then
        spec_Meets_k y.2.2.2.2.2.1 u8 (fun y1 =>
          bif y1 then
            k (.inl (true, (i : Int)))
          else
            spec_Blocked_w0 u0 u1 u3 u4 u5 u6 u7 u8 u9 u10 l (i + 1) k)
      else
        bif (y.2.1 == (3 : Int)) then
          bif (decide (y.2.2.2.1 > u5)) then
            spec_Meets_k y.2.2.2.2.2.1 u8 (fun y2 =>
              bif y2 then
                k (.inl (true, (i : Int)))
              else
                spec_Blocked_w0 u0 u1 u3 u4 u5 u6 u7 u8 u9 u10 l (i + 1) k)
          else
            spec_Blocked_w0 u0 u1 u3 u4 u5 u6 u7 u8 u9 u10 l (i + 1) k
        else
          spec_Blocked_w0 u0 u1 u3 u4 u5 u6 u7 u8 u9 u10 l (i + 1) k
    else
      spec_Blocked_w0 u0 u1 u3 u4 u5 u6 u7 u8 u9 u10 l (i + 1) k

theorem spec_Blocked_lw0 {u0} {u1} {u3} {u4} {u5} {u6} {u7} {u8} {u9} {u10} (h0 : u0.length < 9223372036854775807) {K : (q10T ⊕ q10T) → Option Res} : ∀ (l : List dTxn) (i : Nat)  (n : Nat), u0.drop i = l → l.length < n → loopK spec_Blocked_b0 n (u0, u1, (i : Int), u3, u4, u5, u6, u7, u8, u9, u10) K = spec_Blocked_w0 u0 u1 u3 u4 u5 u6 u7 u8 u9 u10 l  i (Sum.elim (fun z => K (.inl (u0, z.1, z.2, u3, u4, u5, u6, u7, u8, u9, u10))) (fun z => K (.inr (u0, u1, z, u3, u4, u5, u6, u7, u8, u9, u10)))) := by
  intro l
  induction l with
  | nil =>
    intro i  n hd hn
    have hge := lwl_nil hd
    cases n with
    | zero => exact absurd hn (Nat.not_lt_zero _)
    | succ n => simp only [loopK, spec_Blocked_b0, spec_Blocked_w0, hge, decide_false, cond_false, Sum.elim_inr, Sum.elim_inl]
  | cons y l ih =>
    intro i  n hd hn
    obtain ⟨hlt, hz, hd2, hw, hnn⟩ := lwl_cons hd h0
    have hy := lwl_get hd
    cases n with
    | zero => exact absurd hn (Nat.not_lt_zero _)
    | succ n =>
      have ih2 := ih (i + 1)  n hd2 (Nat.lt_of_succ_lt_succ hn)
      simp only [loopK, spec_Blocked_b0, spec_Blocked_w0, hlt, hz, decide_true, cond_true, and_self, if_true, hy, hw, hnn, Sum.elim_inl, Sum.elim_inr, ih2]

theorem spec_Blocked_lz0 {u0} {u1} {u3} {u4} {u5} {u6} {u7} {u8} {u9} {u10} (h0 : u0.length < 9223372036854775807) {K : (q10T ⊕ q10T) → Option Res}  : loopK spec_Blocked_b0 Fuel (u0, u1, (0 : Int), u3, u4, u5, u6, u7, u8, u9, u10) K = spec_Blocked_w0 u0 u1 u3 u4 u5 u6 u7 u8 u9 u10 u0  0 (Sum.elim (fun z => K (.inl (u0, z.1, z.2, u3, u4, u5, u6, u7, u8, u9, u10))) (fun z => K (.inr (u0, u1, z, u3, u4, u5, u6, u7, u8, u9, u10)))) :=
  spec_Blocked_lw0 h0 u0 0  Fuel rfl (lwl_fuel h0)

def spec_Blocked_t (a0 : dTxn) (a1 : (List dTxn)) (k : Bool → Option Res) : Option Res :=
  spec_Blocked_w0 a1 false a0.1 a0.2.1 a0.2.2.1 a0.2.2.2.1 a0.2.2.2.2.1 a0.2.2.2.2.2.1 a0.2.2.2.2.2.2.1 a0.2.2.2.2.2.2.2 a1  0 (Sum.elim (fun z59 =>
    k z59.1) (fun _ =>
    k false))

theorem spec_Blocked_r {a0 : dTxn} {a1 : (List dTxn)} (h0 : a1.length < 9223372036854775807) {k : Bool → Option Res} : spec_Blocked_k a0 a1 k = spec_Blocked_t a0 a1 k := by
  rw [spec_Blocked_e]
  simp only [spec_Blocked_d, spec_Blocked_t, (spec_Blocked_lz0 h0), Sum.elim_inl, Sum.elim_inr]

end

end Go.VE
