/- Loops told as recursions over what is left; written by gen.py. -/

import Derived.Test.YtbedbcnmfoildaaSameFromN

import Derived.Test.YtbedbcnmfoildaaP1

namespace Go.VE

noncomputable section

set_option linter.unusedVariables false
set_option linter.unusedSimpArgs false
set_option maxRecDepth 100000


def laws_szVersionS_w0 (u0 : (List dVersion)) (u2 : Int) : List dVersion → Int → Nat → (((Int × Int × Int) ⊕ (Int × Int)) → Option Res) → Option Res
  | [], s1, i, k =>
    k (.inr (s1, (i : Int)))
  | y :: l, s1, i, k =>
    laws_szVersion_k y s1 (fun y1 =>
      bif (decide (y1 < (0 : Int))) then
        k (.inl (y1, (-1 : Int), (i : Int)))
      else
        laws_szVersionS_w0 u0 u2 l y1 (i + 1) k)

theorem laws_szVersionS_lw0 {u0} {u2} (h0 : u0.length < 9223372036854775807) {K : (((List dVersion) × Int × Int × Int) ⊕ ((List dVersion) × Int × Int × Int)) → Option Res} : ∀ (l : List dVersion) (i : Nat) (s1 : Int) (n : Nat), u0.drop i = l → l.length < n → loopK laws_szVersionS_b0 n (u0, s1, u2, (i : Int)) K = laws_szVersionS_w0 u0 u2 l s1 i (Sum.elim (fun z => K (.inl (u0, z.1, z.2.1, z.2.2))) (fun z => K (.inr (u0, z.1, u2, z.2)))) := by
  intro l
  induction l with
  | nil =>
    intro i s1 n hd hn
    have hge := lwl_nil hd
    cases n with
    | zero => exact absurd hn (Nat.not_lt_zero _)
    | succ n => simp only [loopK, laws_szVersionS_b0, laws_szVersionS_w0, hge, decide_false, cond_false, Sum.elim_inr, Sum.elim_inl]
  | cons y l ih =>
    intro i s1 n hd hn
    obtain ⟨hlt, hz, hd2, hw, hnn⟩ := lwl_cons hd h0
    have hy := lwl_get hd
    cases n with
    | zero => exact absurd hn (Nat.not_lt_zero _)
    | succ n =>
      have ih2 := fun (s1 : Int) => ih (i + 1) s1 n hd2 (Nat.lt_of_succ_lt_succ hn)
      simp only [loopK, laws_szVersionS_b0, laws_szVersionS_w0, hlt, hz, decide_true, cond_true, and_self, if_true, hy, hw, hnn, Sum.elim_inl, Sum.elim_inr, ih2]

theorem laws_szVersionS_lz0 {u0} {u2} (h0 : u0.length < 9223372036854775807) {K : (((List dVersion) × Int × Int × Int) ⊕ ((List dVersion) × Int × Int × Int)) → Option Res} {s1 : Int} : loopK laws_szVersionS_b0 Fuel (u0, s1, u2, (0 : Int)) K = laws_szVersionS_w0 u0 u2 u0 s1 0 (Sum.elim (fun z => K (.inl (u0, z.1, z.2.1, z.2.2))) (fun z => K (.inr (u0, z.1, u2, z.2)))) :=
  laws_szVersionS_lw0 h0 u0 0 s1 Fuel rfl (lwl_fuel h0)

def laws_toVersionS_w0 (u0 : (List dVersion)) : List dVersion → (List dVersion) → Nat → ((Int × (List dVersion)) → Option Res) → Option Res
  | [], s2, i, k =>
    k ((i : Int), s2)
  | y :: l, s2, i, k =>
    laws_toVersion_k y (fun y1 =>
      if 0 ≤ (i : Int) ∧ (i : Int) < (s2.length : Int) then
        laws_toVersionS_w0 u0 l (s2.set (i : Int).toNat y1) (i + 1) k
      else none)

theorem laws_toVersionS_lw0 {u0} (h0 : u0.length < 9223372036854775807) {K : ((List dVersion) × Int × (List dVersion)) → Option Res} : ∀ (l : List dVersion) (i : Nat) (s2 : (List dVersion)) (n : Nat), u0.drop i = l → l.length < n → loopK laws_toVersionS_b0 n (u0, (i : Int), s2) K = laws_toVersionS_w0 u0 l s2 i (fun z => K (u0, z.1, z.2)) := by
  intro l
  induction l with
  | nil =>
    intro i s2 n hd hn
    have hge := lwl_nil hd
    cases n with
    | zero => exact absurd hn (Nat.not_lt_zero _)
    | succ n => simp only [loopK, laws_toVersionS_b0, laws_toVersionS_w0, hge, decide_false, cond_false, Sum.elim_inr, Sum.elim_inl]
  | cons y l ih =>
    intro i s2 n hd hn
    obtain ⟨hlt, hz, hd2, hw, hnn⟩ := lwl_cons hd h0
    have hy := lwl_get hd
    cases n with
    | zero => exact absurd hn (Nat.not_lt_zero _)
    | succ n =>
      have ih2 := fun (s2 : (List dVersion)) => ih (i + 1) s2 n hd2 (Nat.lt_of_succ_lt_succ hn)
      simp only [loopK, laws_toVersionS_b0, laws_toVersionS_w0, hlt, hz, decide_true, cond_true, and_self, if_true, hy, hw, hnn, Sum.elim_inl, Sum.elim_inr, ih2]

theorem laws_toVersionS_lz0 {u0} (h0 : u0.length < 9223372036854775807) {K : ((List dVersion) × Int × (List dVersion)) → Option Res} {s2 : (List dVersion)} : loopK laws_toVersionS_b0 Fuel (u0, (0 : Int), s2) K = laws_toVersionS_w0 u0 u0 s2 0 (fun z => K (u0, z.1, z.2)) :=
  laws_toVersionS_lw0 h0 u0 0 s2 Fuel rfl (lwl_fuel h0)

def laws_toVersionS_t (a0 : (List dVersion)) (k : (List dVersion) → Option Res) : Option Res :=
  if 0 ≤ (a0.length : Int) ∧ (a0.length : Int) ≤ (a0.length : Int) ∧ (a0.length : Int) ≤ (VE.maxLen : Int) then
    laws_toVersionS_w0 a0 a0 (List.replicate (a0.length : Int).toNat (Ty.zero tVersion)) 0 (fun z13 =>
      k z13.2)
  else none

theorem laws_toVersionS_r {a0 : (List dVersion)} (h0 : a0.length < 9223372036854775807) {k : (List dVersion) → Option Res} : laws_toVersionS_k a0 k = laws_toVersionS_t a0 k := by
  rw [laws_toVersionS_e]
  simp only [laws_toVersionS_d, laws_toVersionS_t, (laws_toVersionS_lz0 h0), Sum.elim_inl, Sum.elim_inr]

def spec_l06At_w0 (u0 : (List dVersion)) (u1 : ByteArray) (u2 : Int) : List dVersion → Int → Nat → ((Int × Int) → Option Res) → Option Res
  | [], s3, i, k =>
    k (s3, (i : Int))
  | y :: l, s3, i, k =>
    bif (strEq (y.1) u1) then
      bif (decide (y.2.2.2 ≤ u2)) then
        bif (decide (s3 < (0 : Int))) then
          spec_l06At_w0 u0 u1 u2 l (i : Int) (i + 1) k
        else
          if 0 ≤ s3 ∧ s3 < (u0.length : Int) then
            bif (decide (y.2.2.2 > (rd (Ty.zero tVersion) u0 s3).2.2.2)) then
              spec_l06At_w0 u0 u1 u2 l (i : Int) (i + 1) k
            else
              spec_l06At_w0 u0 u1 u2 l s3 (i + 1) k
          else none
      else
        spec_l06At_w0 u0 u1 u2 l s3 (i + 1) k
    else
      spec_l06At_w0 u0 u1 u2 l s3 (i + 1) k

theorem spec_l06At_lw0 {u0} {u1} {u2} (h0 : u0.length < 9223372036854775807) {K : ((List dVersion) × ByteArray × Int × Int × Int) → Option Res} : ∀ (l : List dVersion) (i : Nat) (s3 : Int) (n : Nat), u0.drop i = l → l.length < n → loopK spec_l06At_b0 n (u0, u1, u2, s3, (i : Int)) K = spec_l06At_w0 u0 u1 u2 l s3 i (fun z => K (u0, u1, u2, z.1, z.2)) := by
  intro l
  induction l with
  | nil =>
    intro i s3 n hd hn
    have hge := lwl_nil hd
    cases n with
    | zero => exact absurd hn (Nat.not_lt_zero _)
    | succ n => simp only [loopK, spec_l06At_b0, spec_l06At_w0, hge, decide_false, cond_false, Sum.elim_inr, Sum.elim_inl]
  | cons y l ih =>
    intro i s3 n hd hn
    obtain ⟨hlt, hz, hd2, hw, hnn⟩ := lwl_cons hd h0
    have hy := lwl_get hd
    cases n with
    | zero => exact absurd hn (Nat.not_lt_zero _)
    | succ n =>
      have ih2 := fun (s3 : Int) => ih (i + 1) s3 n hd2 (Nat.lt_of_succ_lt_succ hn)
      simp only [loopK, spec_l06At_b0, spec_l06At_w0, hlt, hz, decide_true, cond_true, and_self, if_true, hy, hw, hnn, Sum.elim_inl, Sum.elim_inr, ih2]

theorem spec_l06At_lz0 {u0} {u1} {u2} (h0 : u0.length < 9223372036854775807) {K : ((List dVersion) × ByteArray × Int × Int × Int) → Option Res} {s3 : Int} : loopK spec_l06At_b0 Fuel (u0, u1, u2, s3, (0 : Int)) K = spec_l06At_w0 u0 u1 u2 u0 s3 0 (fun z => K (u0, u1, u2, z.1, z.2)) :=
  spec_l06At_lw0 h0 u0 0 s3 Fuel rfl (lwl_fuel h0)

def spec_l06At_t (a0 : (List dVersion)) (a1 : ByteArray) (a2 : Int) (k : Int → Option Res) : Option Res :=
  spec_l06At_w0 a0 a1 a2 a0 (-1 : Int) 0 (fun z13 =>
    k z13.1)

theorem spec_l06At_r {a0 : (List dVersion)} {a1 : ByteArray} {a2 : Int} (h0 : a0.length < 9223372036854775807) {k : Int → Option Res} : spec_l06At_k a0 a1 a2 k = spec_l06At_t a0 a1 a2 k := by
  rw [spec_l06At_e]
  simp only [spec_l06At_d, spec_l06At_t, (spec_l06At_lz0 h0), Sum.elim_inl, Sum.elim_inr]

def spec_l06Pairs_w0 (u0 : (List dRange)) (u1 : (List dRange)) (u2 : Bool) : List dRange → Nat → (((Bool × Int) ⊕ Int) → Option Res) → Option Res
  | [], i, k =>
    k (.inr (i : Int))
  | y :: l, i, k =>
    if 0 ≤ (i : Int) ∧ (i : Int) < (u1.length : Int) then
      bif (!(Ty.eqB tRange y (rd (Ty.zero tRange) u1 (i : Int)))) then
        k (.inl (false, (i : Int)))
      else
        spec_l06Pairs_w0 u0 u1 u2 l (i + 1) k
    else none

theorem spec_l06Pairs_lw0 {u0} {u1} {u2} (h0 : u0.length < 9223372036854775807) {K : (((List dRange) × (List dRange) × Bool × Int) ⊕ ((List dRange) × (List dRange) × Bool × Int)) → Option Res} : ∀ (l : List dRange) (i : Nat)  (n : Nat), u0.drop i = l → l.length < n → loopK spec_l06Pairs_b0 n (u0, u1, u2, (i : Int)) K = spec_l06Pairs_w0 u0 u1 u2 l  i (Sum.elim (fun z => K (.inl (u0, u1, z.1, z.2))) (fun z => K (.inr (u0, u1, u2, z)))) := by
  intro l
  induction l with
  | nil =>
    intro i  n hd hn
    have hge := lwl_nil hd
    cases n with
    | zero => exact absurd hn (Nat.not_lt_zero _)
    | succ n => simp only [loopK, spec_l06Pairs_b0, spec_l06Pairs_w0, hge, decide_false, cond_false, Sum.elim_inr, Sum.elim_inl]
  | cons y l ih =>
    intro i  n hd hn
    obtain ⟨hlt, hz, hd2, hw, hnn⟩ := lwl_cons hd h0
    have hy := lwl_get hd
    cases n with
    | zero => exact absurd hn (Nat.not_lt_zero _)
    | succ n =>
      have ih2 := ih (i + 1)  n hd2 (Nat.lt_of_succ_lt_succ hn)
      simp only [loopK, spec_l06Pairs_b0, spec_l06Pairs_w0, hlt, hz, decide_true, cond_true, and_self, if_true, hy, hw, hnn, Sum.elim_inl, Sum.elim_inr, ih2]

theorem spec_l06Pairs_lz0 {u0} {u1} {u2} (h0 : u0.length < 9223372036854775807) {K : (((List dRange) × (List dRange) × Bool × Int) ⊕ ((List dRange) × (List dRange) × Bool × Int)) → Option Res}  : loopK spec_l06Pairs_b0 Fuel (u0, u1, u2, (0 : Int)) K = spec_l06Pairs_w0 u0 u1 u2 u0  0 (Sum.elim (fun z => K (.inl (u0, u1, z.1, z.2))) (fun z => K (.inr (u0, u1, u2, z)))) :=
  spec_l06Pairs_lw0 h0 u0 0  Fuel rfl (lwl_fuel h0)

def spec_l06Pairs_t (a0 : (List dRange)) (a1 : (List dRange)) (k : Bool → Option Res) : Option Res :=
  bif ((a0.length : Int) != (a1.length : Int)) then
    k false
  else
    spec_l06Pairs_w0 a0 a1 false a0  0 (Sum.elim (fun z13 =>
      k z13.1) (fun _ =>
      k true))

theorem spec_l06Pairs_r {a0 : (List dRange)} {a1 : (List dRange)} (h0 : a0.length < 9223372036854775807) {k : Bool → Option Res} : spec_l06Pairs_k a0 a1 k = spec_l06Pairs_t a0 a1 k := by
  rw [spec_l06Pairs_e]
  simp only [spec_l06Pairs_d, spec_l06Pairs_t, (spec_l06Pairs_lz0 h0), Sum.elim_inl, Sum.elim_inr]

def slices_Concat_Version_w0 (u0 : (List (List dVersion))) (u2 : (List (List dVersion))) : List (List dVersion) → Int → Nat → ((Int × Int) → Option Res) → Option Res
  | [], s1, i, k =>
    k (s1, (i : Int))
  | y :: l, s1, i, k =>
    bif (decide ((IntKind.wrap .i64 (s1 + (y.length : Int))) < (0 : Int))) then
      none
    else
      slices_Concat_Version_w0 u0 u2 l (IntKind.wrap .i64 (s1 + (y.length : Int))) (i + 1) k

theorem slices_Concat_Version_lw0 {u0} {u2} (h0 : u2.length < 9223372036854775807) {K : ((List (List dVersion)) × Int × (List (List dVersion)) × Int × Int) → Option Res} : ∀ (l : List (List dVersion)) (i : Nat) (s1 : Int) (n : Nat), u2.drop i = l → l.length < n → loopK slices_Concat_Version_b0 n (u0, s1, u2, (u2.length : Int), (i : Int)) K = slices_Concat_Version_w0 u0 u2 l s1 i (fun z => K (u0, z.1, u2, (u2.length : Int), z.2)) := by
  intro l
  induction l with
  | nil =>
    intro i s1 n hd hn
    have hge := lwl_nil hd
    cases n with
    | zero => exact absurd hn (Nat.not_lt_zero _)
    | succ n => simp only [loopK, slices_Concat_Version_b0, slices_Concat_Version_w0, hge, decide_false, cond_false, Sum.elim_inr, Sum.elim_inl]
  | cons y l ih =>
    intro i s1 n hd hn
    obtain ⟨hlt, hz, hd2, hw, hnn⟩ := lwl_cons hd h0
    have hy := lwl_get hd
    cases n with
    | zero => exact absurd hn (Nat.not_lt_zero _)
    | succ n =>
      have ih2 := fun (s1 : Int) => ih (i + 1) s1 n hd2 (Nat.lt_of_succ_lt_succ hn)
      simp only [loopK, slices_Concat_Version_b0, slices_Concat_Version_w0, hlt, hz, decide_true, cond_true, and_self, if_true, hy, hw, hnn, Sum.elim_inl, Sum.elim_inr, ih2]

theorem slices_Concat_Version_lz0 {u0} {u2} (h0 : u2.length < 9223372036854775807) {K : ((List (List dVersion)) × Int × (List (List dVersion)) × Int × Int) → Option Res} {s1 : Int} : loopK slices_Concat_Version_b0 Fuel (u0, s1, u2, (u2.length : Int), (0 : Int)) K = slices_Concat_Version_w0 u0 u2 u2 s1 0 (fun z => K (u0, z.1, u2, (u2.length : Int), z.2)) :=
  slices_Concat_Version_lw0 h0 u2 0 s1 Fuel rfl (lwl_fuel h0)

def slices_Concat_Version_w2 (u0 : (List (List dVersion))) : List (List dVersion) → (List dVersion) → Nat → ((Int × (List dVersion)) → Option Res) → Option Res
  | [], s3, i, k =>
    k ((i : Int), s3)
  | y :: l, s3, i, k =>
    if s3.length + y.length ≤ VE.maxLen then
      slices_Concat_Version_w2 u0 l (s3 ++ y) (i + 1) k
    else none

theorem slices_Concat_Version_lw2 {u0} (h0 : u0.length < 9223372036854775807) {K : ((List (List dVersion)) × Int × Int × (List dVersion)) → Option Res} : ∀ (l : List (List dVersion)) (i : Nat) (s3 : (List dVersion)) (n : Nat), u0.drop i = l → l.length < n → loopK slices_Concat_Version_b2 n (u0, (u0.length : Int), (i : Int), s3) K = slices_Concat_Version_w2 u0 l s3 i (fun z => K (u0, (u0.length : Int), z.1, z.2)) := by
  intro l
  induction l with
  | nil =>
    intro i s3 n hd hn
    have hge := lwl_nil hd
    cases n with
    | zero => exact absurd hn (Nat.not_lt_zero _)
    | succ n => simp only [loopK, slices_Concat_Version_b2, slices_Concat_Version_w2, hge, decide_false, cond_false, Sum.elim_inr, Sum.elim_inl]
  | cons y l ih =>
    intro i s3 n hd hn
    obtain ⟨hlt, hz, hd2, hw, hnn⟩ := lwl_cons hd h0
    have hy := lwl_get hd
    cases n with
    | zero => exact absurd hn (Nat.not_lt_zero _)
    | succ n =>
      have ih2 := fun (s3 : (List dVersion)) => ih (i + 1) s3 n hd2 (Nat.lt_of_succ_lt_succ hn)
      simp only [loopK, slices_Concat_Version_b2, slices_Concat_Version_w2, hlt, hz, decide_true, cond_true, and_self, if_true, hy, hw, hnn, Sum.elim_inl, Sum.elim_inr, ih2]

theorem slices_Concat_Version_lz2 {u0} (h0 : u0.length < 9223372036854775807) {K : ((List (List dVersion)) × Int × Int × (List dVersion)) → Option Res} {s3 : (List dVersion)} : loopK slices_Concat_Version_b2 Fuel (u0, (u0.length : Int), (0 : Int), s3) K = slices_Concat_Version_w2 u0 u0 s3 0 (fun z => K (u0, (u0.length : Int), z.1, z.2)) :=
  slices_Concat_Version_lw2 h0 u0 0 s3 Fuel rfl (lwl_fuel h0)

def slices_Concat_Version_t (a0 : (List (List dVersion))) (k : (List dVersion) → Option Res) : Option Res :=
  slices_Concat_Version_w0 a0 a0 a0 (0 : Int) 0 (fun z13 =>
    slices_Grow_Version_vn_k z13.1 (fun y14 =>
      slices_Concat_Version_w2 a0 a0 y14 0 (fun z15 =>
        k z15.2)))

theorem slices_Concat_Version_r {a0 : (List (List dVersion))} (h0 : a0.length < 9223372036854775807) {k : (List dVersion) → Option Res} : slices_Concat_Version_k a0 k = slices_Concat_Version_t a0 k := by
  rw [slices_Concat_Version_e]
  simp only [slices_Concat_Version_d, slices_Concat_Version_t, (slices_Concat_Version_lz2 h0), (slices_Concat_Version_lz0 h0), Sum.elim_inl, Sum.elim_inr]

def impl_keysOf_w0 (u0 : (List dVersion)) : List dVersion → (List ByteArray) → Nat → ((Int × (List ByteArray)) → Option Res) → Option Res
  | [], s3, i, k =>
    k ((i : Int), s3)
  | y :: l, s3, i, k =>
    if s3.length + [y.1].length ≤ VE.maxLen then
      impl_keysOf_w0 u0 l (s3 ++ [y.1]) (i + 1) k
    else none

theorem impl_keysOf_lw0 {u0} (h0 : u0.length < 9223372036854775807) {K : ((List dVersion) × Int × Int × (List ByteArray)) → Option Res} : ∀ (l : List dVersion) (i : Nat) (s3 : (List ByteArray)) (n : Nat), u0.drop i = l → l.length < n → loopK impl_keysOf_b0 n (u0, (u0.length : Int), (i : Int), s3) K = impl_keysOf_w0 u0 l s3 i (fun z => K (u0, (u0.length : Int), z.1, z.2)) := by
  intro l
  induction l with
  | nil =>
    intro i s3 n hd hn
    have hge := lwl_nil hd
    cases n with
    | zero => exact absurd hn (Nat.not_lt_zero _)
    | succ n => simp only [loopK, impl_keysOf_b0, impl_keysOf_w0, hge, decide_false, cond_false, Sum.elim_inr, Sum.elim_inl]
  | cons y l ih =>
    intro i s3 n hd hn
    obtain ⟨hlt, hz, hd2, hw, hnn⟩ := lwl_cons hd h0
    have hy := lwl_get hd
    cases n with
    | zero => exact absurd hn (Nat.not_lt_zero _)
    | succ n =>
      have ih2 := fun (s3 : (List ByteArray)) => ih (i + 1) s3 n hd2 (Nat.lt_of_succ_lt_succ hn)
      simp only [loopK, impl_keysOf_b0, impl_keysOf_w0, hlt, hz, decide_true, cond_true, and_self, if_true, hy, hw, hnn, Sum.elim_inl, Sum.elim_inr, ih2]

theorem impl_keysOf_lz0 {u0} (h0 : u0.length < 9223372036854775807) {K : ((List dVersion) × Int × Int × (List ByteArray)) → Option Res} {s3 : (List ByteArray)} : loopK impl_keysOf_b0 Fuel (u0, (u0.length : Int), (0 : Int), s3) K = impl_keysOf_w0 u0 u0 s3 0 (fun z => K (u0, (u0.length : Int), z.1, z.2)) :=
  impl_keysOf_lw0 h0 u0 0 s3 Fuel rfl (lwl_fuel h0)

def impl_keysOf_t (a0 : (List dVersion)) (k : (List ByteArray) → Option Res) : Option Res :=
  impl_keysOf_w0 a0 a0 ([] : List ByteArray) 0 (fun z13 =>
    slices_Sort_string_vo_k z13.2 (fun y14 =>
      slices_Compact_string_vo_k y14 (Sum.elim (fun y15 =>
        k y15) (fun y16 =>
        k y16))))

theorem impl_keysOf_r {a0 : (List dVersion)} (h0 : a0.length < 9223372036854775807) {k : (List ByteArray) → Option Res} : impl_keysOf_k a0 k = impl_keysOf_t a0 k := by
  rw [impl_keysOf_e]
  simp only [impl_keysOf_d, impl_keysOf_t, (impl_keysOf_lz0 h0), Sum.elim_inl, Sum.elim_inr]

def impl_lastAt_w0 (u0 : (List dVersion)) (u1 : ByteArray) (u2 : Int) (u4 : (List dVersion)) : List dVersion → Int → Nat → ((Int × Int) → Option Res) → Option Res
  | [], s3, i, k =>
    k (s3, (i : Int))
  | y :: l, s3, i, k =>
    bif (strEq (y.1) u1) then
      bif (decide (y.2.2.2 ≤ u2)) then
        bif (decide (s3 < (0 : Int))) then
          impl_lastAt_w0 u0 u1 u2 u4 l (i : Int) (i + 1) k
        else
          if 0 ≤ s3 ∧ s3 < (u0.length : Int) then
            bif (decide (y.2.2.2 > (rd (Ty.zero tVersion) u0 s3).2.2.2)) then
              impl_lastAt_w0 u0 u1 u2 u4 l (i : Int) (i + 1) k
            else
              impl_lastAt_w0 u0 u1 u2 u4 l s3 (i + 1) k
          else none
      else
        impl_lastAt_w0 u0 u1 u2 u4 l s3 (i + 1) k
    else
      impl_lastAt_w0 u0 u1 u2 u4 l s3 (i + 1) k

theorem impl_lastAt_lw0 {u0} {u1} {u2} {u4} (h0 : u4.length < 9223372036854775807) {K : ((List dVersion) × ByteArray × Int × Int × (List dVersion) × Int × Int) → Option Res} : ∀ (l : List dVersion) (i : Nat) (s3 : Int) (n : Nat), u4.drop i = l → l.length < n → loopK impl_lastAt_b0 n (u0, u1, u2, s3, u4, (u4.length : Int), (i : Int)) K = impl_lastAt_w0 u0 u1 u2 u4 l s3 i (fun z => K (u0, u1, u2, z.1, u4, (u4.length : Int), z.2)) := by
  intro l
  induction l with
  | nil =>
    intro i s3 n hd hn
    have hge := lwl_nil hd
    cases n with
    | zero => exact absurd hn (Nat.not_lt_zero _)
    | succ n => simp only [loopK, impl_lastAt_b0, impl_lastAt_w0, hge, decide_false, cond_false, Sum.elim_inr, Sum.elim_inl]
  | cons y l ih =>
    intro i s3 n hd hn
    obtain ⟨hlt, hz, hd2, hw, hnn⟩ := lwl_cons hd h0
    have hy := lwl_get hd
    cases n with
    | zero => exact absurd hn (Nat.not_lt_zero _)
    | succ n =>
      have ih2 := fun (s3 : Int) => ih (i + 1) s3 n hd2 (Nat.lt_of_succ_lt_succ hn)
      simp only [loopK, impl_lastAt_b0, impl_lastAt_w0, hlt, hz, decide_true, cond_true, and_self, if_true, hy, hw, hnn, Sum.elim_inl, Sum.elim_inr, ih2]

theorem impl_lastAt_lz0 {u0} {u1} {u2} {u4} (h0 : u4.length < 9223372036854775807) {K : ((List dVersion) × ByteArray × Int × Int × (List dVersion) × Int × Int) → Option Res} {s3 : Int} : loopK impl_lastAt_b0 Fuel (u0, u1, u2, s3, u4, (u4.length : Int), (0 : Int)) K = impl_lastAt_w0 u0 u1 u2 u4 u4 s3 0 (fun z => K (u0, u1, u2, z.1, u4, (u4.length : Int), z.2)) :=
  impl_lastAt_lw0 h0 u4 0 s3 Fuel rfl (lwl_fuel h0)

def impl_lastAt_t (a0 : (List dVersion)) (a1 : ByteArray) (a2 : Int) (k : Int → Option Res) : Option Res :=
  impl_lastAt_w0 a0 a1 a2 a0 a0 (-1 : Int) 0 (fun z13 =>
    k z13.1)

theorem impl_lastAt_r {a0 : (List dVersion)} {a1 : ByteArray} {a2 : Int} (h0 : a0.length < 9223372036854775807) {k : Int → Option Res} : impl_lastAt_k a0 a1 a2 k = impl_lastAt_t a0 a1 a2 k := by
  rw [impl_lastAt_e]
  simp only [impl_lastAt_d, impl_lastAt_t, (impl_lastAt_lz0 h0), Sum.elim_inl, Sum.elim_inr]

def slices_Equal_Pair_w0 (u0 : (List dRange)) (u1 : (List dRange)) (u2 : Bool) : List dRange → Nat → (((Bool × Int) ⊕ Int) → Option Res) → Option Res
  | [], i, k =>
    k (.inr (i : Int))
  | y :: l, i, k =>
    if 0 ≤ (i : Int) ∧ (i : Int) < (u1.length : Int) then
      bif (!(Ty.eqB tRange y (rd (Ty.zero tRange) u1 (i : Int)))) then
        k (.inl (false, (i : Int)))
      else
        slices_Equal_Pair_w0 u0 u1 u2 l (i + 1) k
    else none

theorem slices_Equal_Pair_lw0 {u0} {u1} {u2} (h0 : u0.length < 9223372036854775807) {K : (((List dRange) × (List dRange) × Bool × Int × Int) ⊕ ((List dRange) × (List dRange) × Bool × Int × Int)) → Option Res} : ∀ (l : List dRange) (i : Nat)  (n : Nat), u0.drop i = l → l.length < n → loopK slices_Equal_Pair_b0 n (u0, u1, u2, (u0.length : Int), (i : Int)) K = slices_Equal_Pair_w0 u0 u1 u2 l  i (Sum.elim (fun z => K (.inl (u0, u1, z.1, (u0.length : Int), z.2))) (fun z => K (.inr (u0, u1, u2, (u0.length : Int), z)))) := by
  intro l
  induction l with
  | nil =>
    intro i  n hd hn
    have hge := lwl_nil hd
    cases n with
    | zero => exact absurd hn (Nat.not_lt_zero _)
    | succ n => simp only [loopK, slices_Equal_Pair_b0, slices_Equal_Pair_w0, hge, decide_false, cond_false, Sum.elim_inr, Sum.elim_inl]
  | cons y l ih =>
    intro i  n hd hn
    obtain ⟨hlt, hz, hd2, hw, hnn⟩ := lwl_cons hd h0
    have hy := lwl_get hd
    cases n with
    | zero => exact absurd hn (Nat.not_lt_zero _)
    | succ n =>
      have ih2 := ih (i + 1)  n hd2 (Nat.lt_of_succ_lt_succ hn)
      simp only [loopK, slices_Equal_Pair_b0, slices_Equal_Pair_w0, hlt, hz, decide_true, cond_true, and_self, if_true, hy, hw, hnn, Sum.elim_inl, Sum.elim_inr, ih2]

theorem slices_Equal_Pair_lz0 {u0} {u1} {u2} (h0 : u0.length < 9223372036854775807) {K : (((List dRange) × (List dRange) × Bool × Int × Int) ⊕ ((List dRange) × (List dRange) × Bool × Int × Int)) → Option Res}  : loopK slices_Equal_Pair_b0 Fuel (u0, u1, u2, (u0.length : Int), (0 : Int)) K = slices_Equal_Pair_w0 u0 u1 u2 u0  0 (Sum.elim (fun z => K (.inl (u0, u1, z.1, (u0.length : Int), z.2))) (fun z => K (.inr (u0, u1, u2, (u0.length : Int), z)))) :=
  slices_Equal_Pair_lw0 h0 u0 0  Fuel rfl (lwl_fuel h0)

def slices_Equal_Pair_t (a0 : (List dRange)) (a1 : (List dRange)) (k : Bool → Option Res) : Option Res :=
  bif ((a0.length : Int) != (a1.length : Int)) then
    k false
  else
    slices_Equal_Pair_w0 a0 a1 false a0  0 (Sum.elim (fun z13 =>
      k z13.1) (fun _ =>
      k true))

theorem slices_Equal_Pair_r {a0 : (List dRange)} {a1 : (List dRange)} (h0 : a0.length < 9223372036854775807) {k : Bool → Option Res} : slices_Equal_Pair_k a0 a1 k = slices_Equal_Pair_t a0 a1 k := by
  rw [slices_Equal_Pair_e]
  simp only [slices_Equal_Pair_d, slices_Equal_Pair_t, (slices_Equal_Pair_lz0 h0), Sum.elim_inl, Sum.elim_inr]

def laws_eqVersionS_w0 (u0 : (List dVersion)) (u1 : (List dVersion)) (u2 : Bool) : List dVersion → Nat → (((Bool × Int) ⊕ Int) → Option Res) → Option Res
  | [], i, k =>
    k (.inr (i : Int))
  | y :: l, i, k =>
    if 0 ≤ (i : Int) ∧ (i : Int) < (u1.length : Int) then
      laws_eqVersion_k y (rd (Ty.zero tVersion) u1 (i : Int)) (fun y1 =>
        bif (!y1) then
          k (.inl (false, (i : Int)))
        else
          laws_eqVersionS_w0 u0 u1 u2 l (i + 1) k)
    else none

theorem laws_eqVersionS_lw0 {u0} {u1} {u2} (h0 : u0.length < 9223372036854775807) {K : (((List dVersion) × (List dVersion) × Bool × Int) ⊕ ((List dVersion) × (List dVersion) × Bool × Int)) → Option Res} : ∀ (l : List dVersion) (i : Nat)  (n : Nat), u0.drop i = l → l.length < n → loopK laws_eqVersionS_b0 n (u0, u1, u2, (i : Int)) K = laws_eqVersionS_w0 u0 u1 u2 l  i (Sum.elim (fun z => K (.inl (u0, u1, z.1, z.2))) (fun z => K (.inr (u0, u1, u2, z)))) := by
  intro l
  induction l with
  | nil =>
    intro i  n hd hn
    have hge := lwl_nil hd
    cases n with
    | zero => exact absurd hn (Nat.not_lt_zero _)
    | succ n => simp only [loopK, laws_eqVersionS_b0, laws_eqVersionS_w0, hge, decide_false, cond_false, Sum.elim_inr, Sum.elim_inl]
  | cons y l ih =>
    intro i  n hd hn
    obtain ⟨hlt, hz, hd2, hw, hnn⟩ := lwl_cons hd h0
    have hy := lwl_get hd
    cases n with
    | zero => exact absurd hn (Nat.not_lt_zero _)
    | succ n =>
      have ih2 := ih (i + 1)  n hd2 (Nat.lt_of_succ_lt_succ hn)
      simp only [loopK, laws_eqVersionS_b0, laws_eqVersionS_w0, hlt, hz, decide_true, cond_true, and_self, if_true, hy, hw, hnn, Sum.elim_inl, Sum.elim_inr, ih2]

theorem laws_eqVersionS_lz0 {u0} {u1} {u2} (h0 : u0.length < 9223372036854775807) {K : (((List dVersion) × (List dVersion) × Bool × Int) ⊕ ((List dVersion) × (List dVersion) × Bool × Int)) → Option Res}  : loopK laws_eqVersionS_b0 Fuel (u0, u1, u2, (0 : Int)) K = laws_eqVersionS_w0 u0 u1 u2 u0  0 (Sum.elim (fun z => K (.inl (u0, u1, z.1, z.2))) (fun z => K (.inr (u0, u1, u2, z)))) :=
  laws_eqVersionS_lw0 h0 u0 0  Fuel rfl (lwl_fuel h0)

def laws_eqVersionS_t (a0 : (List dVersion)) (a1 : (List dVersion)) (k : Bool → Option Res) : Option Res :=
  bif ((a0.length : Int) != (a1.length : Int)) then
    k false
  else
    laws_eqVersionS_w0 a0 a1 false a0  0 (Sum.elim (fun z13 =>
      k z13.1) (fun _ =>
      k true))

theorem laws_eqVersionS_r {a0 : (List dVersion)} {a1 : (List dVersion)} (h0 : a0.length < 9223372036854775807) {k : Bool → Option Res} : laws_eqVersionS_k a0 a1 k = laws_eqVersionS_t a0 a1 k := by
  rw [laws_eqVersionS_e]
  simp only [laws_eqVersionS_d, laws_eqVersionS_t, (laws_eqVersionS_lz0 h0), Sum.elim_inl, Sum.elim_inr]

end

end Go.VE
