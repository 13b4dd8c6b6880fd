/- Native programs of the functions, written by gen.py. -/

import Derived.Test.YtbedbcnmfoildaaT0

namespace Go.VE

noncomputable section

set_option linter.unusedVariables false
set_option linter.unusedSimpArgs false
set_option maxRecDepth 100000


def spec_l01In_d (a0 : Int) (a1 : Int) (a2 : Int) (k : Bool → Option Res) : Option Res :=
  bif (decide (a0 ≥ a1)) then
    k (decide (a0 ≤ a2))
  else
    k false

theorem spec_l01In_h : ∃ g : Int → Int → Int → (Bool → Option Res) → Option Res, g = spec_l01In_d := ⟨_, rfl⟩
def spec_l01In_k : Int → Int → Int → (Bool → Option Res) → Option Res := Classical.choose spec_l01In_h
theorem spec_l01In_e : spec_l01In_k = spec_l01In_d := Classical.choose_spec spec_l01In_h

theorem spec_l01In_p (a0 : Int) (a1 : Int) (a2 : Int) : Par (spec_l01In_k a0 a1 a2) := by
  rw [spec_l01In_e]
  unfold spec_l01In_d
  exact (par_bif (par_ret _) (par_ret _))

def spec_l01Var_b0 (x : (Int × (List Int))) (k : (Int × (List Int)) ⊕ (Int × (List Int)) → Option Res) : Option Res :=
    bif (decide (x.1 > (127 : Int))) then
      if x.2.length + [(IntKind.wrap .u8 (IntKind.wrap .i64 ((x.1.tmod (128 : Int)) + (128 : Int))))].length ≤ VE.maxLen then
        k (.inl ((IntKind.wrap .i64 (x.1.tdiv (128 : Int))), (x.2 ++ [(IntKind.wrap .u8 (IntKind.wrap .i64 ((x.1.tmod (128 : Int)) + (128 : Int))))])))
      else none
    else
      k (.inr (x.1, x.2))

theorem spec_l01Var_bp0 (x : (Int × (List Int))) : Par (spec_l01Var_b0 x) := by
  unfold spec_l01Var_b0
  exact (par_bif (par_ite (c := x.2.length + [(IntKind.wrap .u8 (IntKind.wrap .i64 ((x.1.tmod (128 : Int)) + (128 : Int))))].length ≤ VE.maxLen) (par_ret _) par_none) (par_ret _))

def spec_l01Var_d (a0 : Int) (k : ByteArray → Option Res) : Option Res :=
  loopK spec_l01Var_b0 Fuel (a0, ([] : List Int)) (fun z1 =>
    if z1.2.length + [(IntKind.wrap .u8 z1.1)].length ≤ VE.maxLen then
      k (bytesOf (z1.2 ++ [(IntKind.wrap .u8 z1.1)]))
    else none)

theorem spec_l01Var_h : ∃ g : Int → (ByteArray → Option Res) → Option Res, g = spec_l01Var_d := ⟨_, rfl⟩
def spec_l01Var_k : Int → (ByteArray → Option Res) → Option Res := Classical.choose spec_l01Var_h
theorem spec_l01Var_e : spec_l01Var_k = spec_l01Var_d := Classical.choose_spec spec_l01Var_h

theorem spec_l01Var_p (a0 : Int) : Par (spec_l01Var_k a0) := by
  rw [spec_l01Var_e]
  unfold spec_l01Var_d
  exact ((par_loop spec_l01Var_bp0 Fuel (a0, ([] : List Int))).bind fun z1 => (par_ite (c := z1.2.length + [(IntKind.wrap .u8 z1.1)].length ≤ VE.maxLen) (par_ret _) par_none))

def spec_ReadVar_j6000001 (x : (ByteArray × Int × Int × Int × Bool × Int × Int × Int)) (k : ((ByteArray × Int × Int × Int × Bool × Int × Int × Int) ⊕ (ByteArray × Int × Int × Int × Bool × Int × Int × Int)) → Option Res) : Option Res :=
    if 0 ≤ x.2.2.2.2.2.2.2 ∧ x.2.2.2.2.2.2.2 < (x.1.size : Int) then
      if 0 ≤ x.2.2.2.2.2.2.2 ∧ x.2.2.2.2.2.2.2 < (x.1.size : Int) then
        bif (decide ((bt x.1 x.2.2.2.2.2.2.2) < (128 : Int))) then
          bif (decide ((IntKind.wrap .i64 (x.2.2.2.2.2.1 + (IntKind.wrap .i64 (((IntKind.wrap .i64 (bt x.1 x.2.2.2.2.2.2.2)).tmod (128 : Int)) * x.2.2.2.2.2.2.1)))) > (1000000000 : Int))) then
            k (.inl (x.1, x.2.1, (0 : Int), (0 : Int), false, (IntKind.wrap .i64 (x.2.2.2.2.2.1 + (IntKind.wrap .i64 (((IntKind.wrap .i64 (bt x.1 x.2.2.2.2.2.2.2)).tmod (128 : Int)) * x.2.2.2.2.2.2.1)))), (IntKind.wrap .i64 (x.2.2.2.2.2.2.1 * (128 : Int))), x.2.2.2.2.2.2.2))
          else
            if 0 ≤ x.2.1 ∧ x.2.1 ≤ (IntKind.wrap .i64 (x.2.2.2.2.2.2.2 + (1 : Int))) ∧ (IntKind.wrap .i64 (x.2.2.2.2.2.2.2 + (1 : Int))) ≤ (x.1.size : Int) then
              spec_l01Var_k (IntKind.wrap .i64 (x.2.2.2.2.2.1 + (IntKind.wrap .i64 (((IntKind.wrap .i64 (bt x.1 x.2.2.2.2.2.2.2)).tmod (128 : Int)) * x.2.2.2.2.2.2.1)))) (fun y6 =>
                bif (!(strEq y6 (x.1.extract x.2.1.toNat (IntKind.wrap .i64 (x.2.2.2.2.2.2.2 + (1 : Int))).toNat))) then
                  k (.inl (x.1, x.2.1, (0 : Int), (0 : Int), false, (IntKind.wrap .i64 (x.2.2.2.2.2.1 + (IntKind.wrap .i64 (((IntKind.wrap .i64 (bt x.1 x.2.2.2.2.2.2.2)).tmod (128 : Int)) * x.2.2.2.2.2.2.1)))), (IntKind.wrap .i64 (x.2.2.2.2.2.2.1 * (128 : Int))), x.2.2.2.2.2.2.2))
                else
                  k (.inl (x.1, x.2.1, (IntKind.wrap .i64 (x.2.2.2.2.2.1 + (IntKind.wrap .i64 (((IntKind.wrap .i64 (bt x.1 x.2.2.2.2.2.2.2)).tmod (128 : Int)) * x.2.2.2.2.2.2.1)))), (IntKind.wrap .i64 (x.2.2.2.2.2.2.2 + (1 : Int))), true, (IntKind.wrap .i64 (x.2.2.2.2.2.1 + (IntKind.wrap .i64 (((IntKind.wrap .i64 (bt x.1 x.2.2.2.2.2.2.2)).tmod (128 : Int)) * x.2.2.2.2.2.2.1)))), (IntKind.wrap .i64 (x.2.2.2.2.2.2.1 * (128 : Int))), x.2.2.2.2.2.2.2)))
            else none
        else
          k (.inr (x.1, x.2.1, x.2.2.1, x.2.2.2.1, x.2.2.2.2.1, (IntKind.wrap .i64 (x.2.2.2.2.2.1 + (IntKind.wrap .i64 (((IntKind.wrap .i64 (bt x.1 x.2.2.2.2.2.2.2)).tmod (128 : Int)) * x.2.2.2.2.2.2.1)))), (IntKind.wrap .i64 (x.2.2.2.2.2.2.1 * (128 : Int))), (IntKind.wrap .i64 (x.2.2.2.2.2.2.2 + (1 : Int)))))
      else none
    else none

theorem spec_ReadVar_jp6000001 (x : (ByteArray × Int × Int × Int × Bool × Int × Int × Int)) : Par (spec_ReadVar_j6000001 x) := by
  unfold spec_ReadVar_j6000001
  exact (par_ite (c := 0 ≤ x.2.2.2.2.2.2.2 ∧ x.2.2.2.2.2.2.2 < (x.1.size : Int)) (par_ite (c := 0 ≤ x.2.2.2.2.2.2.2 ∧ x.2.2.2.2.2.2.2 < (x.1.size : Int)) (par_bif (par_bif (par_ret _) (par_ite (c := 0 ≤ x.2.1 ∧ x.2.1 ≤ (IntKind.wrap .i64 (x.2.2.2.2.2.2.2 + (1 : Int))) ∧ (IntKind.wrap .i64 (x.2.2.2.2.2.2.2 + (1 : Int))) ≤ (x.1.size : Int)) ((spec_l01Var_p (IntKind.wrap .i64 (x.2.2.2.2.2.1 + (IntKind.wrap .i64 (((IntKind.wrap .i64 (bt x.1 x.2.2.2.2.2.2.2)).tmod (128 : Int)) * x.2.2.2.2.2.2.1))))).bind fun y6 => (par_bif (par_ret _) (par_ret _))) par_none)) (par_ret _)) par_none) par_none)

def spec_ReadVar_b0 (x : (ByteArray × Int × Int × Int × Bool × Int × Int × Int)) (k : (ByteArray × Int × Int × Int × Bool × Int × Int × Int) ⊕ ((ByteArray × Int × Int × Int × Bool × Int × Int × Int) ⊕ (ByteArray × Int × Int × Int × Bool × Int × Int × Int)) → Option Res) : Option Res :=
    bif (decide (x.2.2.2.2.2.2.2 < (x.1.size : Int))) then
      bif (decide (x.2.2.2.2.2.2.2 < (IntKind.wrap .i64 (x.2.1 + (5 : Int))))) then
        spec_ReadVar_j6000001 (x.1, x.2.1, x.2.2.1, x.2.2.2.1, x.2.2.2.2.1, x.2.2.2.2.2.1, x.2.2.2.2.2.2.1, x.2.2.2.2.2.2.2) (Sum.elim (fun z4 =>
          k (.inr (.inr (z4.1, z4.2.1, z4.2.2.1, z4.2.2.2.1, z4.2.2.2.2.1, z4.2.2.2.2.2.1, z4.2.2.2.2.2.2.1, z4.2.2.2.2.2.2.2)))) (fun z5 =>
          k (.inl (z5.1, z5.2.1, z5.2.2.1, z5.2.2.2.1, z5.2.2.2.2.1, z5.2.2.2.2.2.1, z5.2.2.2.2.2.2.1, z5.2.2.2.2.2.2.2))))
      else
        k (.inr (.inl (x.1, x.2.1, x.2.2.1, x.2.2.2.1, x.2.2.2.2.1, x.2.2.2.2.2.1, x.2.2.2.2.2.2.1, x.2.2.2.2.2.2.2)))
    else
      k (.inr (.inl (x.1, x.2.1, x.2.2.1, x.2.2.2.1, x.2.2.2.2.1, x.2.2.2.2.2.1, x.2.2.2.2.2.2.1, x.2.2.2.2.2.2.2)))

theorem spec_ReadVar_bp0 (x : (ByteArray × Int × Int × Int × Bool × Int × Int × Int)) : Par (spec_ReadVar_b0 x) := by
  unfold spec_ReadVar_b0
  exact (par_bif (par_bif ((spec_ReadVar_jp6000001 (x.1, x.2.1, x.2.2.1, x.2.2.2.1, x.2.2.2.2.1, x.2.2.2.2.2.1, x.2.2.2.2.2.2.1, x.2.2.2.2.2.2.2)).bind2 (fun z4 => (par_ret _)) (fun z5 => (par_ret _))) (par_ret _)) (par_ret _))

def spec_ReadVar_d (a0 : ByteArray) (a1 : Int) (k : (Int × Int × Bool) → Option Res) : Option Res :=
  spec_l01In_k a1 (0 : Int) (a0.size : Int) (fun y1 =>
    bif (!y1) then
      k ((0 : Int), (0 : Int), false)
    else
      loopK spec_ReadVar_b0 Fuel (a0, a1, (0 : Int), (0 : Int), false, (0 : Int), (1 : Int), a1) (Sum.elim (fun _ =>
        k ((0 : Int), (0 : Int), false)) (fun z3 =>
        k (z3.2.2.1, z3.2.2.2.1, z3.2.2.2.2.1))))

theorem spec_ReadVar_h : ∃ g : ByteArray → Int → ((Int × Int × Bool) → Option Res) → Option Res, g = spec_ReadVar_d := ⟨_, rfl⟩
def spec_ReadVar_k : ByteArray → Int → ((Int × Int × Bool) → Option Res) → Option Res := Classical.choose spec_ReadVar_h
theorem spec_ReadVar_e : spec_ReadVar_k = spec_ReadVar_d := Classical.choose_spec spec_ReadVar_h

theorem spec_ReadVar_p (a0 : ByteArray) (a1 : Int) : Par (spec_ReadVar_k a0 a1) := by
  rw [spec_ReadVar_e]
  unfold spec_ReadVar_d
  exact ((spec_l01In_p a1 (0 : Int) (a0.size : Int)).bind fun y1 => (par_bif (par_ret _) ((par_loop spec_ReadVar_bp0 Fuel (a0, a1, (0 : Int), (0 : Int), false, (0 : Int), (1 : Int), a1)).bind2 (fun z2 => (par_ret _)) (fun z3 => (par_ret _)))))

def spec_l07Var_d (a0 : ByteArray) (a1 : Int) (a2 : Bool) (k : (Int × ByteArray × Int × Bool) → Option Res) : Option Res :=
  spec_ReadVar_k a0 a1 (fun y1 =>
    bif a2 then
      k ((0 : Int), a0, a1, true)
    else
      bif (!y1.2.2) then
        k ((0 : Int), a0, a1, true)
      else
        k (y1.1, a0, y1.2.1, a2))

theorem spec_l07Var_h : ∃ g : ByteArray → Int → Bool → ((Int × ByteArray × Int × Bool) → Option Res) → Option Res, g = spec_l07Var_d := ⟨_, rfl⟩
def spec_l07Var_k : ByteArray → Int → Bool → ((Int × ByteArray × Int × Bool) → Option Res) → Option Res := Classical.choose spec_l07Var_h
theorem spec_l07Var_e : spec_l07Var_k = spec_l07Var_d := Classical.choose_spec spec_l07Var_h

theorem spec_l07Var_p (a0 : ByteArray) (a1 : Int) (a2 : Bool) : Par (spec_l07Var_k a0 a1 a2) := by
  rw [spec_l07Var_e]
  unfold spec_l07Var_d
  exact ((spec_ReadVar_p a0 a1).bind fun y1 => (par_bif (par_ret _) (par_bif (par_ret _) (par_ret _))))

def spec_ReadShort_d (a0 : ByteArray) (a1 : Int) (k : (ByteArray × Int × Bool) → Option Res) : Option Res :=
  spec_ReadVar_k a0 a1 (fun y1 =>
    bif (!y1.2.2) then
      k ((⟨#[]⟩ : ByteArray), (0 : Int), false)
    else
      bif (decide (y1.1 > (20000 : Int))) then
        k ((⟨#[]⟩ : ByteArray), (0 : Int), false)
      else
        bif (decide (y1.1 > (IntKind.wrap .i64 ((a0.size : Int) - y1.2.1)))) then
          k ((⟨#[]⟩ : ByteArray), (0 : Int), false)
        else
          if 0 ≤ y1.2.1 ∧ y1.2.1 ≤ (IntKind.wrap .i64 (y1.2.1 + y1.1)) ∧ (IntKind.wrap .i64 (y1.2.1 + y1.1)) ≤ (a0.size : Int) then
            k ((a0.extract y1.2.1.toNat (IntKind.wrap .i64 (y1.2.1 + y1.1)).toNat), (IntKind.wrap .i64 (y1.2.1 + y1.1)), true)
          else none)

theorem spec_ReadShort_h : ∃ g : ByteArray → Int → ((ByteArray × Int × Bool) → Option Res) → Option Res, g = spec_ReadShort_d := ⟨_, rfl⟩
def spec_ReadShort_k : ByteArray → Int → ((ByteArray × Int × Bool) → Option Res) → Option Res := Classical.choose spec_ReadShort_h
theorem spec_ReadShort_e : spec_ReadShort_k = spec_ReadShort_d := Classical.choose_spec spec_ReadShort_h

theorem spec_ReadShort_p (a0 : ByteArray) (a1 : Int) : Par (spec_ReadShort_k a0 a1) := by
  rw [spec_ReadShort_e]
  unfold spec_ReadShort_d
  exact ((spec_ReadVar_p a0 a1).bind fun y1 => (par_bif (par_ret _) (par_bif (par_ret _) (par_bif (par_ret _) (par_ite (c := 0 ≤ y1.2.1 ∧ y1.2.1 ≤ (IntKind.wrap .i64 (y1.2.1 + y1.1)) ∧ (IntKind.wrap .i64 (y1.2.1 + y1.1)) ≤ (a0.size : Int)) (par_ret _) par_none)))))

def spec_l07ReadShort_d (a0 : ByteArray) (a1 : Int) (a2 : Bool) (k : (ByteArray × ByteArray × Int × Bool) → Option Res) : Option Res :=
  spec_ReadShort_k a0 a1 (fun y1 =>
    bif a2 then
      k ((⟨#[]⟩ : ByteArray), a0, a1, true)
    else
      bif (!y1.2.2) then
        k ((⟨#[]⟩ : ByteArray), a0, a1, true)
      else
        k (y1.1, a0, y1.2.1, a2))

theorem spec_l07ReadShort_h : ∃ g : ByteArray → Int → Bool → ((ByteArray × ByteArray × Int × Bool) → Option Res) → Option Res, g = spec_l07ReadShort_d := ⟨_, rfl⟩
def spec_l07ReadShort_k : ByteArray → Int → Bool → ((ByteArray × ByteArray × Int × Bool) → Option Res) → Option Res := Classical.choose spec_l07ReadShort_h
theorem spec_l07ReadShort_e : spec_l07ReadShort_k = spec_l07ReadShort_d := Classical.choose_spec spec_l07ReadShort_h

theorem spec_l07ReadShort_p (a0 : ByteArray) (a1 : Int) (a2 : Bool) : Par (spec_l07ReadShort_k a0 a1 a2) := by
  rw [spec_l07ReadShort_e]
  unfold spec_l07ReadShort_d
  exact ((spec_ReadShort_p a0 a1).bind fun y1 => (par_bif (par_ret _) (par_bif (par_ret _) (par_ret _))))

def spec_l07ReadBit_j5000004 (x : (Bool × ByteArray × Int × Bool)) (k : (Bool × ByteArray × Int × Bool) → Option Res) : Option Res :=
    if 0 ≤ (IntKind.wrap .i64 ((IntKind.wrap .i64 (x.2.2.1 + (1 : Int))) - (1 : Int))) ∧ (IntKind.wrap .i64 ((IntKind.wrap .i64 (x.2.2.1 + (1 : Int))) - (1 : Int))) < (x.2.1.size : Int) then
      k (((bt x.2.1 (IntKind.wrap .i64 ((IntKind.wrap .i64 (x.2.2.1 + (1 : Int))) - (1 : Int)))) == (1 : Int)), x.2.1, (IntKind.wrap .i64 (x.2.2.1 + (1 : Int))), x.2.2.2)
    else none

theorem spec_l07ReadBit_jp5000004 (x : (Bool × ByteArray × Int × Bool)) : Par (spec_l07ReadBit_j5000004 x) := by
  unfold spec_l07ReadBit_j5000004
  exact (par_ite (c := 0 ≤ (IntKind.wrap .i64 ((IntKind.wrap .i64 (x.2.2.1 + (1 : Int))) - (1 : Int))) ∧ (IntKind.wrap .i64 ((IntKind.wrap .i64 (x.2.2.1 + (1 : Int))) - (1 : Int))) < (x.2.1.size : Int)) (par_ret _) par_none)

def spec_l07ReadBit_d (a0 : ByteArray) (a1 : Int) (a2 : Bool) (k : (Bool × ByteArray × Int × Bool) → Option Res) : Option Res :=
  bif a2 then
    k (false, a0, a1, true)
  else
    bif (decide (a1 ≥ (a0.size : Int))) then
      k (false, a0, a1, true)
    else
      if 0 ≤ a1 ∧ a1 < (a0.size : Int) then
        bif (decide ((bt a0 a1) > (1 : Int))) then
          k (false, a0, a1, true)
        else
          spec_l07ReadBit_j5000004 (false, a0, a1, a2) (fun z1 =>
            k (z1.1, z1.2.1, z1.2.2.1, z1.2.2.2))
      else none

theorem spec_l07ReadBit_h : ∃ g : ByteArray → Int → Bool → ((Bool × ByteArray × Int × Bool) → Option Res) → Option Res, g = spec_l07ReadBit_d := ⟨_, rfl⟩
def spec_l07ReadBit_k : ByteArray → Int → Bool → ((Bool × ByteArray × Int × Bool) → Option Res) → Option Res := Classical.choose spec_l07ReadBit_h
theorem spec_l07ReadBit_e : spec_l07ReadBit_k = spec_l07ReadBit_d := Classical.choose_spec spec_l07ReadBit_h

theorem spec_l07ReadBit_p (a0 : ByteArray) (a1 : Int) (a2 : Bool) : Par (spec_l07ReadBit_k a0 a1 a2) := by
  rw [spec_l07ReadBit_e]
  unfold spec_l07ReadBit_d
  exact (par_bif (par_ret _) (par_bif (par_ret _) (par_ite (c := 0 ≤ a1 ∧ a1 < (a0.size : Int)) (par_bif (par_ret _) ((spec_l07ReadBit_jp5000004 (false, a0, a1, a2)).bind fun z1 => (par_ret _))) par_none)))

def spec_KeyOk_b0 (x : (ByteArray × Bool × Int)) (k : (ByteArray × Bool × Int) ⊕ ((ByteArray × Bool × Int) ⊕ (ByteArray × Bool × Int)) → Option Res) : Option Res :=
    bif (decide (x.2.2 < (x.1.size : Int))) then
      if 0 ≤ x.2.2 ∧ x.2.2 < (x.1.size : Int) then
        bif (decide ((bt x.1 x.2.2) < (97 : Int))) then
          k (.inr (.inl (x.1, false, x.2.2)))
        else
          if 0 ≤ x.2.2 ∧ x.2.2 < (x.1.size : Int) then
            bif (decide ((bt x.1 x.2.2) > (122 : Int))) then
              k (.inr (.inl (x.1, false, x.2.2)))
            else
              k (.inl (x.1, x.2.1, (IntKind.wrap .i64 (x.2.2 + (1 : Int)))))
          else none
      else none
    else
      k (.inr (.inr (x.1, x.2.1, x.2.2)))

theorem spec_KeyOk_bp0 (x : (ByteArray × Bool × Int)) : Par (spec_KeyOk_b0 x) := by
  unfold spec_KeyOk_b0
  exact (par_bif (par_ite (c := 0 ≤ x.2.2 ∧ x.2.2 < (x.1.size : Int)) (par_bif (par_ret _) (par_ite (c := 0 ≤ x.2.2 ∧ x.2.2 < (x.1.size : Int)) (par_bif (par_ret _) (par_ret _)) par_none)) par_none) (par_ret _))

def spec_KeyOk_d (a0 : ByteArray) (k : Bool → Option Res) : Option Res :=
  loopK spec_KeyOk_b0 Fuel (a0, false, (0 : Int)) (Sum.elim (fun z1 =>
    k z1.2.1) (fun z2 =>
    spec_l01In_k (z2.1.size : Int) (1 : Int) (3 : Int) (fun y3 =>
      k y3)))

theorem spec_KeyOk_h : ∃ g : ByteArray → (Bool → Option Res) → Option Res, g = spec_KeyOk_d := ⟨_, rfl⟩
def spec_KeyOk_k : ByteArray → (Bool → Option Res) → Option Res := Classical.choose spec_KeyOk_h
theorem spec_KeyOk_e : spec_KeyOk_k = spec_KeyOk_d := Classical.choose_spec spec_KeyOk_h

theorem spec_KeyOk_p (a0 : ByteArray) : Par (spec_KeyOk_k a0) := by
  rw [spec_KeyOk_e]
  unfold spec_KeyOk_d
  exact ((par_loop spec_KeyOk_bp0 Fuel (a0, false, (0 : Int))).bind2 (fun z1 => (par_ret _)) (fun z2 => ((spec_l01In_p (z2.1.size : Int) (1 : Int) (3 : Int)).bind fun y3 => (par_ret _))))

def spec_WriteOk_d (a0 : dWrite) (k : Bool → Option Res) : Option Res :=
  spec_KeyOk_k a0.1 (fun y1 =>
    bif y1 then
      bif (decide ((a0.2.1.size : Int) ≤ (12 : Int))) then
        bif (!a0.2.2) then
          k true
        else
          k (strEq a0.2.1 (⟨#[]⟩ : ByteArray))
      else
        k false
    else
      k false)

theorem spec_WriteOk_h : ∃ g : dWrite → (Bool → Option Res) → Option Res, g = spec_WriteOk_d := ⟨_, rfl⟩
def spec_WriteOk_k : dWrite → (Bool → Option Res) → Option Res := Classical.choose spec_WriteOk_h
theorem spec_WriteOk_e : spec_WriteOk_k = spec_WriteOk_d := Classical.choose_spec spec_WriteOk_h

theorem spec_WriteOk_p (a0 : dWrite) : Par (spec_WriteOk_k a0) := by
  rw [spec_WriteOk_e]
  unfold spec_WriteOk_d
  exact ((spec_KeyOk_p a0.1).bind fun y1 => (par_bif (par_bif (par_bif (par_ret _) (par_ret _)) (par_ret _)) (par_ret _)))

def spec_WritesOk_b0 (x : ((List dWrite) × Bool × Int)) (k : ((List dWrite) × Bool × Int) ⊕ (((List dWrite) × Bool × Int) ⊕ ((List dWrite) × Bool × Int)) → Option Res) : Option Res :=
    bif (decide (x.2.2 < (x.1.length : Int))) then
      if 0 ≤ x.2.2 ∧ x.2.2 < (x.1.length : Int) then
        spec_WriteOk_k (rd (Ty.zero tWrite) x.1 x.2.2) (fun y3 =>
          bif (!y3) then
            k (.inr (.inl (x.1, false, x.2.2)))
          else
            bif (decide (x.2.2 > (0 : Int))) then
              if 0 ≤ (IntKind.wrap .i64 (x.2.2 - (1 : Int))) ∧ (IntKind.wrap .i64 (x.2.2 - (1 : Int))) < (x.1.length : Int) then
                if 0 ≤ x.2.2 ∧ x.2.2 < (x.1.length : Int) then
                  bif (!(strLess ((rd (Ty.zero tWrite) x.1 (IntKind.wrap .i64 (x.2.2 - (1 : Int)))).1) ((rd (Ty.zero tWrite) x.1 x.2.2).1))) then
                    k (.inr (.inl (x.1, false, x.2.2)))
                  else
                    k (.inl (x.1, x.2.1, (IntKind.wrap .i64 (x.2.2 + (1 : Int)))))
                else none
              else none
            else
              k (.inl (x.1, x.2.1, (IntKind.wrap .i64 (x.2.2 + (1 : Int))))))
      else none
    else
      k (.inr (.inr (x.1, x.2.1, x.2.2)))

theorem spec_WritesOk_bp0 (x : ((List dWrite) × Bool × Int)) : Par (spec_WritesOk_b0 x) := by
  unfold spec_WritesOk_b0
  exact (par_bif (par_ite (c := 0 ≤ x.2.2 ∧ x.2.2 < (x.1.length : Int)) ((spec_WriteOk_p (rd (Ty.zero tWrite) x.1 x.2.2)).bind fun y3 => (par_bif (par_ret _) (par_bif (par_ite (c := 0 ≤ (IntKind.wrap .i64 (x.2.2 - (1 : Int))) ∧ (IntKind.wrap .i64 (x.2.2 - (1 : Int))) < (x.1.length : Int)) (par_ite (c := 0 ≤ x.2.2 ∧ x.2.2 < (x.1.length : Int)) (par_bif (par_ret _) (par_ret _)) par_none) par_none) (par_ret _)))) par_none) (par_ret _))

def spec_WritesOk_d (a0 : (List dWrite)) (k : Bool → Option Res) : Option Res :=
  loopK spec_WritesOk_b0 Fuel (a0, false, (0 : Int)) (Sum.elim (fun z1 =>
    k z1.2.1) (fun z2 =>
    k (decide ((z2.1.length : Int) ≤ (8 : Int)))))

theorem spec_WritesOk_h : ∃ g : (List dWrite) → (Bool → Option Res) → Option Res, g = spec_WritesOk_d := ⟨_, rfl⟩
def spec_WritesOk_k : (List dWrite) → (Bool → Option Res) → Option Res := Classical.choose spec_WritesOk_h
theorem spec_WritesOk_e : spec_WritesOk_k = spec_WritesOk_d := Classical.choose_spec spec_WritesOk_h

theorem spec_WritesOk_p (a0 : (List dWrite)) : Par (spec_WritesOk_k a0) := by
  rw [spec_WritesOk_e]
  unfold spec_WritesOk_d
  exact ((par_loop spec_WritesOk_bp0 Fuel (a0, false, (0 : Int))).bind2 (fun z1 => (par_ret _)) (fun z2 => (par_ret _)))

def spec_RangeOk_d (a0 : dRange) (k : Bool → Option Res) : Option Res :=
  spec_KeyOk_k a0.1 (fun y1 =>
    bif y1 then
      spec_KeyOk_k a0.2 (fun y2 =>
        bif y2 then
          k ((strLess a0.1 a0.2) || (strEq a0.1 a0.2))
        else
          k false)
    else
      k false)

theorem spec_RangeOk_h : ∃ g : dRange → (Bool → Option Res) → Option Res, g = spec_RangeOk_d := ⟨_, rfl⟩
def spec_RangeOk_k : dRange → (Bool → Option Res) → Option Res := Classical.choose spec_RangeOk_h
theorem spec_RangeOk_e : spec_RangeOk_k = spec_RangeOk_d := Classical.choose_spec spec_RangeOk_h

theorem spec_RangeOk_p (a0 : dRange) : Par (spec_RangeOk_k a0) := by
  rw [spec_RangeOk_e]
  unfold spec_RangeOk_d
  exact ((spec_KeyOk_p a0.1).bind fun y1 => (par_bif ((spec_KeyOk_p a0.2).bind fun y2 => (par_bif (par_ret _) (par_ret _))) (par_ret _)))

def spec_TxnOk_j5000012 (x : (Bool × Int × Int × Int × Int × (List dRange) × (List dWrite) × Bool × ByteArray)) (k : (Bool × Int × Int × Int × Int × (List dRange) × (List dWrite) × Bool × ByteArray) → Option Res) : Option Res :=
    bif (x.2.2.1 != (1 : Int)) then
      k (true, x.2.1, x.2.2.1, x.2.2.2.1, x.2.2.2.2.1, x.2.2.2.2.2.1, x.2.2.2.2.2.2.1, x.2.2.2.2.2.2.2.1, x.2.2.2.2.2.2.2.2)
    else
      k ((!x.2.2.2.2.2.2.2.1), x.2.1, x.2.2.1, x.2.2.2.1, x.2.2.2.2.1, x.2.2.2.2.2.1, x.2.2.2.2.2.2.1, x.2.2.2.2.2.2.2.1, x.2.2.2.2.2.2.2.2)

theorem spec_TxnOk_jp5000012 (x : (Bool × Int × Int × Int × Int × (List dRange) × (List dWrite) × Bool × ByteArray)) : Par (spec_TxnOk_j5000012 x) := by
  unfold spec_TxnOk_j5000012
  exact (par_bif (par_ret _) (par_ret _))

def spec_TxnOk_j5000010 (x : (Bool × Int × Int × Int × Int × (List dRange) × (List dWrite) × Bool × ByteArray)) (k : (Bool × Int × Int × Int × Int × (List dRange) × (List dWrite) × Bool × ByteArray) → Option Res) : Option Res :=
    bif (x.2.2.1 == (2 : Int)) then
      spec_KeyOk_k x.2.2.2.2.2.2.2.2 (fun y14 =>
        bif (!y14) then
          k (false, x.2.1, x.2.2.1, x.2.2.2.1, x.2.2.2.2.1, x.2.2.2.2.2.1, x.2.2.2.2.2.2.1, x.2.2.2.2.2.2.2.1, x.2.2.2.2.2.2.2.2)
        else
          bif (x.2.2.1 != (2 : Int)) then
            bif (!(strEq x.2.2.2.2.2.2.2.2 (⟨#[]⟩ : ByteArray))) then
              k (false, x.2.1, x.2.2.1, x.2.2.2.1, x.2.2.2.2.1, x.2.2.2.2.2.1, x.2.2.2.2.2.2.1, x.2.2.2.2.2.2.2.1, x.2.2.2.2.2.2.2.2)
            else
              spec_TxnOk_j5000012 (x.1, x.2.1, x.2.2.1, x.2.2.2.1, x.2.2.2.2.1, x.2.2.2.2.2.1, x.2.2.2.2.2.2.1, x.2.2.2.2.2.2.2.1, x.2.2.2.2.2.2.2.2) (fun z15 =>
                k (z15.1, z15.2.1, z15.2.2.1, z15.2.2.2.1, z15.2.2.2.2.1, z15.2.2.2.2.2.1, z15.2.2.2.2.2.2.1, z15.2.2.2.2.2.2.2.1, z15.2.2.2.2.2.2.2.2))
          else
            spec_TxnOk_j5000012 (x.1, x.2.1, x.2.2.1, x.2.2.2.1, x.2.2.2.2.1, x.2.2.2.2.2.1, x.2.2.2.2.2.2.1, x.2.2.2.2.2.2.2.1, x.2.2.2.2.2.2.2.2) (fun z16 =>
              k (z16.1, z16.2.1, z16.2.2.1, z16.2.2.2.1, z16.2.2.2.2.1, z16.2.2.2.2.2.1, z16.2.2.2.2.2.2.1, z16.2.2.2.2.2.2.2.1, z16.2.2.2.2.2.2.2.2)))
    else
      bif (x.2.2.1 != (2 : Int)) then
        bif (!(strEq x.2.2.2.2.2.2.2.2 (⟨#[]⟩ : ByteArray))) then
          k (false, x.2.1, x.2.2.1, x.2.2.2.1, x.2.2.2.2.1, x.2.2.2.2.2.1, x.2.2.2.2.2.2.1, x.2.2.2.2.2.2.2.1, x.2.2.2.2.2.2.2.2)
        else
          spec_TxnOk_j5000012 (x.1, x.2.1, x.2.2.1, x.2.2.2.1, x.2.2.2.2.1, x.2.2.2.2.2.1, x.2.2.2.2.2.2.1, x.2.2.2.2.2.2.2.1, x.2.2.2.2.2.2.2.2) (fun z17 =>
            k (z17.1, z17.2.1, z17.2.2.1, z17.2.2.2.1, z17.2.2.2.2.1, z17.2.2.2.2.2.1, z17.2.2.2.2.2.2.1, z17.2.2.2.2.2.2.2.1, z17.2.2.2.2.2.2.2.2))
      else
        spec_TxnOk_j5000012 (x.1, x.2.1, x.2.2.1, x.2.2.2.1, x.2.2.2.2.1, x.2.2.2.2.2.1, x.2.2.2.2.2.2.1, x.2.2.2.2.2.2.2.1, x.2.2.2.2.2.2.2.2) (fun z18 =>
          k (z18.1, z18.2.1, z18.2.2.1, z18.2.2.2.1, z18.2.2.2.2.1, z18.2.2.2.2.2.1, z18.2.2.2.2.2.2.1, z18.2.2.2.2.2.2.2.1, z18.2.2.2.2.2.2.2.2))

theorem spec_TxnOk_jp5000010 (x : (Bool × Int × Int × Int × Int × (List dRange) × (List dWrite) × Bool × ByteArray)) : Par (spec_TxnOk_j5000010 x) := by
  unfold spec_TxnOk_j5000010
  exact (par_bif ((spec_KeyOk_p x.2.2.2.2.2.2.2.2).bind fun y14 => (par_bif (par_ret _) (par_bif (par_bif (par_ret _) ((spec_TxnOk_jp5000012 (x.1, x.2.1, x.2.2.1, x.2.2.2.1, x.2.2.2.2.1, x.2.2.2.2.2.1, x.2.2.2.2.2.2.1, x.2.2.2.2.2.2.2.1, x.2.2.2.2.2.2.2.2)).bind fun z15 => (par_ret _))) ((spec_TxnOk_jp5000012 (x.1, x.2.1, x.2.2.1, x.2.2.2.1, x.2.2.2.2.1, x.2.2.2.2.2.1, x.2.2.2.2.2.2.1, x.2.2.2.2.2.2.2.1, x.2.2.2.2.2.2.2.2)).bind fun z16 => (par_ret _))))) (par_bif (par_bif (par_ret _) ((spec_TxnOk_jp5000012 (x.1, x.2.1, x.2.2.1, x.2.2.2.1, x.2.2.2.2.1, x.2.2.2.2.2.1, x.2.2.2.2.2.2.1, x.2.2.2.2.2.2.2.1, x.2.2.2.2.2.2.2.2)).bind fun z17 => (par_ret _))) ((spec_TxnOk_jp5000012 (x.1, x.2.1, x.2.2.1, x.2.2.2.1, x.2.2.2.2.1, x.2.2.2.2.2.1, x.2.2.2.2.2.2.1, x.2.2.2.2.2.2.2.1, x.2.2.2.2.2.2.2.2)).bind fun z18 => (par_ret _))))

def spec_TxnOk_b0 (x : (Bool × Int × Int × Int × Int × Int × (List dRange) × (List dWrite) × Bool × ByteArray)) (k : (Bool × Int × Int × Int × Int × Int × (List dRange) × (List dWrite) × Bool × ByteArray) ⊕ ((Bool × Int × Int × Int × Int × Int × (List dRange) × (List dWrite) × Bool × ByteArray) ⊕ (Bool × Int × Int × Int × Int × Int × (List dRange) × (List dWrite) × Bool × ByteArray)) → Option Res) : Option Res :=
    bif (decide (x.2.1 < (x.2.2.2.2.2.2.1.length : Int))) then
      if 0 ≤ x.2.1 ∧ x.2.1 < (x.2.2.2.2.2.2.1.length : Int) then
        spec_RangeOk_k (rd (Ty.zero tRange) x.2.2.2.2.2.2.1 x.2.1) (fun y6 =>
          bif (!y6) then
            k (.inr (.inl (false, x.2.1, x.2.2.1, x.2.2.2.1, x.2.2.2.2.1, x.2.2.2.2.2.1, x.2.2.2.2.2.2.1, x.2.2.2.2.2.2.2.1, x.2.2.2.2.2.2.2.2.1, x.2.2.2.2.2.2.2.2.2)))
          else
            k (.inl (x.1, (IntKind.wrap .i64 (x.2.1 + (1 : Int))), x.2.2.1, x.2.2.2.1, x.2.2.2.2.1, x.2.2.2.2.2.1, x.2.2.2.2.2.2.1, x.2.2.2.2.2.2.2.1, x.2.2.2.2.2.2.2.2.1, x.2.2.2.2.2.2.2.2.2)))
      else none
    else
      k (.inr (.inr (x.1, x.2.1, x.2.2.1, x.2.2.2.1, x.2.2.2.2.1, x.2.2.2.2.2.1, x.2.2.2.2.2.2.1, x.2.2.2.2.2.2.2.1, x.2.2.2.2.2.2.2.2.1, x.2.2.2.2.2.2.2.2.2)))

theorem spec_TxnOk_bp0 (x : (Bool × Int × Int × Int × Int × Int × (List dRange) × (List dWrite) × Bool × ByteArray)) : Par (spec_TxnOk_b0 x) := by
  unfold spec_TxnOk_b0
  exact (par_bif (par_ite (c := 0 ≤ x.2.1 ∧ x.2.1 < (x.2.2.2.2.2.2.1.length : Int)) ((spec_RangeOk_p (rd (Ty.zero tRange) x.2.2.2.2.2.2.1 x.2.1)).bind fun y6 => (par_bif (par_ret _) (par_ret _))) par_none) (par_ret _))

def spec_TxnOk_j5000003 (x : (Bool × Int × Int × Int × Int × (List dRange) × (List dWrite) × Bool × ByteArray)) (k : (Bool × Int × Int × Int × Int × (List dRange) × (List dWrite) × Bool × ByteArray) → Option Res) : Option Res :=
    loopK spec_TxnOk_b0 Fuel (x.1, (0 : Int), x.2.1, x.2.2.1, x.2.2.2.1, x.2.2.2.2.1, x.2.2.2.2.2.1, x.2.2.2.2.2.2.1, x.2.2.2.2.2.2.2.1, x.2.2.2.2.2.2.2.2) (Sum.elim (fun z7 =>
      k (z7.1, z7.2.2.1, z7.2.2.2.1, z7.2.2.2.2.1, z7.2.2.2.2.2.1, z7.2.2.2.2.2.2.1, z7.2.2.2.2.2.2.2.1, z7.2.2.2.2.2.2.2.2.1, z7.2.2.2.2.2.2.2.2.2)) (fun z8 =>
      bif (z8.2.2.2.1 == (3 : Int)) then
        spec_l01In_k z8.2.2.2.2.2.1 (IntKind.wrap .i64 (z8.2.2.2.2.1 + (1 : Int))) (9999 : Int) (fun y9 =>
          bif (!y9) then
            k (false, z8.2.2.1, z8.2.2.2.1, z8.2.2.2.2.1, z8.2.2.2.2.2.1, z8.2.2.2.2.2.2.1, z8.2.2.2.2.2.2.2.1, z8.2.2.2.2.2.2.2.2.1, z8.2.2.2.2.2.2.2.2.2)
          else
            bif (z8.2.2.2.1 != (3 : Int)) then
              bif (z8.2.2.2.2.2.1 != (0 : Int)) then
                k (false, z8.2.2.1, z8.2.2.2.1, z8.2.2.2.2.1, z8.2.2.2.2.2.1, z8.2.2.2.2.2.2.1, z8.2.2.2.2.2.2.2.1, z8.2.2.2.2.2.2.2.2.1, z8.2.2.2.2.2.2.2.2.2)
              else
                spec_TxnOk_j5000010 (z8.1, z8.2.2.1, z8.2.2.2.1, z8.2.2.2.2.1, z8.2.2.2.2.2.1, z8.2.2.2.2.2.2.1, z8.2.2.2.2.2.2.2.1, z8.2.2.2.2.2.2.2.2.1, z8.2.2.2.2.2.2.2.2.2) (fun z10 =>
                  k (z10.1, z10.2.1, z10.2.2.1, z10.2.2.2.1, z10.2.2.2.2.1, z10.2.2.2.2.2.1, z10.2.2.2.2.2.2.1, z10.2.2.2.2.2.2.2.1, z10.2.2.2.2.2.2.2.2))
            else
              spec_TxnOk_j5000010 (z8.1, z8.2.2.1, z8.2.2.2.1, z8.2.2.2.2.1, z8.2.2.2.2.2.1, z8.2.2.2.2.2.2.1, z8.2.2.2.2.2.2.2.1, z8.2.2.2.2.2.2.2.2.1, z8.2.2.2.2.2.2.2.2.2) (fun z11 =>
                k (z11.1, z11.2.1, z11.2.2.1, z11.2.2.2.1, z11.2.2.2.2.1, z11.2.2.2.2.2.1, z11.2.2.2.2.2.2.1, z11.2.2.2.2.2.2.2.1, z11.2.2.2.2.2.2.2.2)))
      else
        bif (z8.2.2.2.1 != (3 : Int)) then
          bif (z8.2.2.2.2.2.1 != (0 : Int)) then
            k (false, z8.2.2.1, z8.2.2.2.1, z8.2.2.2.2.1, z8.2.2.2.2.2.1, z8.2.2.2.2.2.2.1, z8.2.2.2.2.2.2.2.1, z8.2.2.2.2.2.2.2.2.1, z8.2.2.2.2.2.2.2.2.2)
          else
            spec_TxnOk_j5000010 (z8.1, z8.2.2.1, z8.2.2.2.1, z8.2.2.2.2.1, z8.2.2.2.2.2.1, z8.2.2.2.2.2.2.1, z8.2.2.2.2.2.2.2.1, z8.2.2.2.2.2.2.2.2.1, z8.2.2.2.2.2.2.2.2.2) (fun z12 =>
              k (z12.1, z12.2.1, z12.2.2.1, z12.2.2.2.1, z12.2.2.2.2.1, z12.2.2.2.2.2.1, z12.2.2.2.2.2.2.1, z12.2.2.2.2.2.2.2.1, z12.2.2.2.2.2.2.2.2))
        else
          spec_TxnOk_j5000010 (z8.1, z8.2.2.1, z8.2.2.2.1, z8.2.2.2.2.1, z8.2.2.2.2.2.1, z8.2.2.2.2.2.2.1, z8.2.2.2.2.2.2.2.1, z8.2.2.2.2.2.2.2.2.1, z8.2.2.2.2.2.2.2.2.2) (fun z13 =>
            k (z13.1, z13.2.1, z13.2.2.1, z13.2.2.2.1, z13.2.2.2.2.1, z13.2.2.2.2.2.1, z13.2.2.2.2.2.2.1, z13.2.2.2.2.2.2.2.1, z13.2.2.2.2.2.2.2.2))))

theorem spec_TxnOk_jp5000003 (x : (Bool × Int × Int × Int × Int × (List dRange) × (List dWrite) × Bool × ByteArray)) : Par (spec_TxnOk_j5000003 x) := by
  unfold spec_TxnOk_j5000003
  exact ((par_loop spec_TxnOk_bp0 Fuel (x.1, (0 : Int), x.2.1, x.2.2.1, x.2.2.2.1, x.2.2.2.2.1, x.2.2.2.2.2.1, x.2.2.2.2.2.2.1, x.2.2.2.2.2.2.2.1, x.2.2.2.2.2.2.2.2)).bind2 (fun z7 => (par_ret _)) (fun z8 => (par_bif ((spec_l01In_p z8.2.2.2.2.2.1 (IntKind.wrap .i64 (z8.2.2.2.2.1 + (1 : Int))) (9999 : Int)).bind fun y9 => (par_bif (par_ret _) (par_bif (par_bif (par_ret _) ((spec_TxnOk_jp5000010 (z8.1, z8.2.2.1, z8.2.2.2.1, z8.2.2.2.2.1, z8.2.2.2.2.2.1, z8.2.2.2.2.2.2.1, z8.2.2.2.2.2.2.2.1, z8.2.2.2.2.2.2.2.2.1, z8.2.2.2.2.2.2.2.2.2)).bind fun z10 => (par_ret _))) ((spec_TxnOk_jp5000010 (z8.1, z8.2.2.1, z8.2.2.2.1, z8.2.2.2.2.1, z8.2.2.2.2.2.1, z8.2.2.2.2.2.2.1, z8.2.2.2.2.2.2.2.1, z8.2.2.2.2.2.2.2.2.1, z8.2.2.2.2.2.2.2.2.2)).bind fun z11 => (par_ret _))))) (par_bif (par_bif (par_ret _) ((spec_TxnOk_jp5000010 (z8.1, z8.2.2.1, z8.2.2.2.1, z8.2.2.2.2.1, z8.2.2.2.2.2.1, z8.2.2.2.2.2.2.1, z8.2.2.2.2.2.2.2.1, z8.2.2.2.2.2.2.2.2.1, z8.2.2.2.2.2.2.2.2.2)).bind fun z12 => (par_ret _))) ((spec_TxnOk_jp5000010 (z8.1, z8.2.2.1, z8.2.2.2.1, z8.2.2.2.2.1, z8.2.2.2.2.2.1, z8.2.2.2.2.2.2.1, z8.2.2.2.2.2.2.2.1, z8.2.2.2.2.2.2.2.2.1, z8.2.2.2.2.2.2.2.2.2)).bind fun z13 => (par_ret _))))))

def spec_TxnOk_d (a0 : dTxn) (k : Bool → Option Res) : Option Res :=
  spec_l01In_k a0.1 (1 : Int) (9999 : Int) (fun y1 =>
    bif (!y1) then
      k false
    else
      spec_l01In_k a0.2.1 (1 : Int) (3 : Int) (fun y2 =>
        bif (!y2) then
          k false
        else
          spec_l01In_k a0.2.2.1 (0 : Int) (9999 : Int) (fun y3 =>
            bif (!y3) then
              k false
            else
              bif (decide ((a0.2.2.2.2.1.length : Int) > (8 : Int))) then
                k false
              else
                spec_WritesOk_k a0.2.2.2.2.2.1 (fun y4 =>
                  bif (!y4) then
                    k false
                  else
                    spec_TxnOk_j5000003 (false, a0.1, a0.2.1, a0.2.2.1, a0.2.2.2.1, a0.2.2.2.2.1, a0.2.2.2.2.2.1, a0.2.2.2.2.2.2.1, a0.2.2.2.2.2.2.2) (fun z5 =>
                      k z5.1)))))

theorem spec_TxnOk_h : ∃ g : dTxn → (Bool → Option Res) → Option Res, g = spec_TxnOk_d := ⟨_, rfl⟩
def spec_TxnOk_k : dTxn → (Bool → Option Res) → Option Res := Classical.choose spec_TxnOk_h
theorem spec_TxnOk_e : spec_TxnOk_k = spec_TxnOk_d := Classical.choose_spec spec_TxnOk_h

theorem spec_TxnOk_p (a0 : dTxn) : Par (spec_TxnOk_k a0) := by
  rw [spec_TxnOk_e]
  unfold spec_TxnOk_d
  exact ((spec_l01In_p a0.1 (1 : Int) (9999 : Int)).bind fun y1 => (par_bif (par_ret _) ((spec_l01In_p a0.2.1 (1 : Int) (3 : Int)).bind fun y2 => (par_bif (par_ret _) ((spec_l01In_p a0.2.2.1 (0 : Int) (9999 : Int)).bind fun y3 => (par_bif (par_ret _) (par_bif (par_ret _) ((spec_WritesOk_p a0.2.2.2.2.2.1).bind fun y4 => (par_bif (par_ret _) ((spec_TxnOk_jp5000003 (false, a0.1, a0.2.1, a0.2.2.1, a0.2.2.2.1, a0.2.2.2.2.1, a0.2.2.2.2.2.1, a0.2.2.2.2.2.2.1, a0.2.2.2.2.2.2.2)).bind fun z5 => (par_ret _)))))))))))

def spec_ReadTxn_j5000025 (x : (Int × Int × Int × Int × Bool × ByteArray × ByteArray × Int × Bool × Int × Int × Int × Int × Bool × ByteArray × (List dRange) × (List dWrite) × (List dRange) × (List dWrite))) (k : (Int × Bool × Int × Int × Int × Int × Bool × ByteArray × ByteArray × Int × Bool × Int × Int × Int × Int × Bool × ByteArray × (List dRange) × (List dWrite)) → Option Res) : Option Res :=
    k (x.2.2.2.2.2.2.2.1, true, x.2.2.2.2.2.2.2.2.2.1, x.2.2.2.2.2.2.2.2.2.2.1, x.2.2.2.2.2.2.2.2.2.2.2.1, x.2.2.2.2.2.2.2.2.2.2.2.2.1, x.2.2.2.2.2.2.2.2.2.2.2.2.2.1, x.2.2.2.2.2.2.2.2.2.2.2.2.2.2.1, x.2.2.2.2.2.2.1, x.2.2.2.2.2.2.2.1, x.2.2.2.2.2.2.2.2.1, x.2.2.2.2.2.2.2.2.2.1, x.2.2.2.2.2.2.2.2.2.2.1, x.2.2.2.2.2.2.2.2.2.2.2.1, x.2.2.2.2.2.2.2.2.2.2.2.2.1, x.2.2.2.2.2.2.2.2.2.2.2.2.2.1, x.2.2.2.2.2.2.2.2.2.2.2.2.2.2.1, x.2.2.2.2.2.2.2.2.2.2.2.2.2.2.2.2.2.1, x.2.2.2.2.2.2.2.2.2.2.2.2.2.2.2.2.2.2)

theorem spec_ReadTxn_jp5000025 (x : (Int × Int × Int × Int × Bool × ByteArray × ByteArray × Int × Bool × Int × Int × Int × Int × Bool × ByteArray × (List dRange) × (List dWrite) × (List dRange) × (List dWrite))) : Par (spec_ReadTxn_j5000025 x) := by
  unfold spec_ReadTxn_j5000025
  exact (par_ret _)

def spec_ReadTxn_j6000001 (x : (Int × Int × Int × Int × Int × Int × Bool × ByteArray × ByteArray × Int × Bool × Int × Int × Int × Int × Bool × ByteArray × (List dRange))) (k : (Int × Int × Int × Int × Int × Int × Bool × ByteArray × ByteArray × Int × Bool × Int × Int × Int × Int × Bool × ByteArray × (List dRange)) → Option Res) : Option Res :=
    spec_l07ReadShort_k x.2.2.2.2.2.2.2.2.1 x.2.2.2.2.2.2.2.2.2.1 x.2.2.2.2.2.2.2.2.2.2.1 (fun y15 =>
      spec_l07ReadShort_k y15.2.1 y15.2.2.1 y15.2.2.2 (fun y16 =>
        if x.2.2.2.2.2.2.2.2.2.2.2.2.2.2.2.2.2.length + [(y15.1, y16.1)].length ≤ VE.maxLen then
          k (x.1, (IntKind.wrap .i64 (x.2.1 + (1 : Int))), x.2.2.1, x.2.2.2.1, x.2.2.2.2.1, x.2.2.2.2.2.1, x.2.2.2.2.2.2.1, x.2.2.2.2.2.2.2.1, y16.2.1, y16.2.2.1, y16.2.2.2, x.2.2.2.2.2.2.2.2.2.2.2.1, x.2.2.2.2.2.2.2.2.2.2.2.2.1, x.2.2.2.2.2.2.2.2.2.2.2.2.2.1, x.2.2.2.2.2.2.2.2.2.2.2.2.2.2.1, x.2.2.2.2.2.2.2.2.2.2.2.2.2.2.2.1, x.2.2.2.2.2.2.2.2.2.2.2.2.2.2.2.2.1, (x.2.2.2.2.2.2.2.2.2.2.2.2.2.2.2.2.2 ++ [(y15.1, y16.1)]))
        else none))

theorem spec_ReadTxn_jp6000001 (x : (Int × Int × Int × Int × Int × Int × Bool × ByteArray × ByteArray × Int × Bool × Int × Int × Int × Int × Bool × ByteArray × (List dRange))) : Par (spec_ReadTxn_j6000001 x) := by
  unfold spec_ReadTxn_j6000001
  exact ((spec_l07ReadShort_p x.2.2.2.2.2.2.2.2.1 x.2.2.2.2.2.2.2.2.2.1 x.2.2.2.2.2.2.2.2.2.2.1).bind fun y15 => ((spec_l07ReadShort_p y15.2.1 y15.2.2.1 y15.2.2.2).bind fun y16 => (par_ite (c := x.2.2.2.2.2.2.2.2.2.2.2.2.2.2.2.2.2.length + [(y15.1, y16.1)].length ≤ VE.maxLen) (par_ret _) par_none)))

def spec_ReadTxn_b0 (x : (Int × Int × Int × Int × Int × Int × Bool × ByteArray × ByteArray × Int × Bool × Int × Int × Int × Int × Bool × ByteArray × (List dRange))) (k : (Int × Int × Int × Int × Int × Int × Bool × ByteArray × ByteArray × Int × Bool × Int × Int × Int × Int × Bool × ByteArray × (List dRange)) ⊕ (Int × Int × Int × Int × Int × Int × Bool × ByteArray × ByteArray × Int × Bool × Int × Int × Int × Int × Bool × ByteArray × (List dRange)) → Option Res) : Option Res :=
    bif (decide (x.2.1 < x.1)) then
      bif (decide (x.2.1 < (10 : Int))) then
        bif (!x.2.2.2.2.2.2.2.2.2.2.1) then
          spec_ReadTxn_j6000001 (x.1, x.2.1, x.2.2.1, x.2.2.2.1, x.2.2.2.2.1, x.2.2.2.2.2.1, x.2.2.2.2.2.2.1, x.2.2.2.2.2.2.2.1, x.2.2.2.2.2.2.2.2.1, x.2.2.2.2.2.2.2.2.2.1, x.2.2.2.2.2.2.2.2.2.2.1, x.2.2.2.2.2.2.2.2.2.2.2.1, x.2.2.2.2.2.2.2.2.2.2.2.2.1, x.2.2.2.2.2.2.2.2.2.2.2.2.2.1, x.2.2.2.2.2.2.2.2.2.2.2.2.2.2.1, x.2.2.2.2.2.2.2.2.2.2.2.2.2.2.2.1, x.2.2.2.2.2.2.2.2.2.2.2.2.2.2.2.2.1, x.2.2.2.2.2.2.2.2.2.2.2.2.2.2.2.2.2) (fun z13 =>
            k (.inl (z13.1, z13.2.1, z13.2.2.1, z13.2.2.2.1, z13.2.2.2.2.1, z13.2.2.2.2.2.1, z13.2.2.2.2.2.2.1, z13.2.2.2.2.2.2.2.1, z13.2.2.2.2.2.2.2.2.1, z13.2.2.2.2.2.2.2.2.2.1, z13.2.2.2.2.2.2.2.2.2.2.1, z13.2.2.2.2.2.2.2.2.2.2.2.1, z13.2.2.2.2.2.2.2.2.2.2.2.2.1, z13.2.2.2.2.2.2.2.2.2.2.2.2.2.1, z13.2.2.2.2.2.2.2.2.2.2.2.2.2.2.1, z13.2.2.2.2.2.2.2.2.2.2.2.2.2.2.2.1, z13.2.2.2.2.2.2.2.2.2.2.2.2.2.2.2.2.1, z13.2.2.2.2.2.2.2.2.2.2.2.2.2.2.2.2.2)))
        else
          k (.inr (x.1, x.2.1, x.2.2.1, x.2.2.2.1, x.2.2.2.2.1, x.2.2.2.2.2.1, x.2.2.2.2.2.2.1, x.2.2.2.2.2.2.2.1, x.2.2.2.2.2.2.2.2.1, x.2.2.2.2.2.2.2.2.2.1, x.2.2.2.2.2.2.2.2.2.2.1, x.2.2.2.2.2.2.2.2.2.2.2.1, x.2.2.2.2.2.2.2.2.2.2.2.2.1, x.2.2.2.2.2.2.2.2.2.2.2.2.2.1, x.2.2.2.2.2.2.2.2.2.2.2.2.2.2.1, x.2.2.2.2.2.2.2.2.2.2.2.2.2.2.2.1, x.2.2.2.2.2.2.2.2.2.2.2.2.2.2.2.2.1, x.2.2.2.2.2.2.2.2.2.2.2.2.2.2.2.2.2))
      else
        k (.inr (x.1, x.2.1, x.2.2.1, x.2.2.2.1, x.2.2.2.2.1, x.2.2.2.2.2.1, x.2.2.2.2.2.2.1, x.2.2.2.2.2.2.2.1, x.2.2.2.2.2.2.2.2.1, x.2.2.2.2.2.2.2.2.2.1, x.2.2.2.2.2.2.2.2.2.2.1, x.2.2.2.2.2.2.2.2.2.2.2.1, x.2.2.2.2.2.2.2.2.2.2.2.2.1, x.2.2.2.2.2.2.2.2.2.2.2.2.2.1, x.2.2.2.2.2.2.2.2.2.2.2.2.2.2.1, x.2.2.2.2.2.2.2.2.2.2.2.2.2.2.2.1, x.2.2.2.2.2.2.2.2.2.2.2.2.2.2.2.2.1, x.2.2.2.2.2.2.2.2.2.2.2.2.2.2.2.2.2))
    else
      k (.inr (x.1, x.2.1, x.2.2.1, x.2.2.2.1, x.2.2.2.2.1, x.2.2.2.2.2.1, x.2.2.2.2.2.2.1, x.2.2.2.2.2.2.2.1, x.2.2.2.2.2.2.2.2.1, x.2.2.2.2.2.2.2.2.2.1, x.2.2.2.2.2.2.2.2.2.2.1, x.2.2.2.2.2.2.2.2.2.2.2.1, x.2.2.2.2.2.2.2.2.2.2.2.2.1, x.2.2.2.2.2.2.2.2.2.2.2.2.2.1, x.2.2.2.2.2.2.2.2.2.2.2.2.2.2.1, x.2.2.2.2.2.2.2.2.2.2.2.2.2.2.2.1, x.2.2.2.2.2.2.2.2.2.2.2.2.2.2.2.2.1, x.2.2.2.2.2.2.2.2.2.2.2.2.2.2.2.2.2))

theorem spec_ReadTxn_bp0 (x : (Int × Int × Int × Int × Int × Int × Bool × ByteArray × ByteArray × Int × Bool × Int × Int × Int × Int × Bool × ByteArray × (List dRange))) : Par (spec_ReadTxn_b0 x) := by
  unfold spec_ReadTxn_b0
  exact (par_bif (par_bif (par_bif ((spec_ReadTxn_jp6000001 (x.1, x.2.1, x.2.2.1, x.2.2.2.1, x.2.2.2.2.1, x.2.2.2.2.2.1, x.2.2.2.2.2.2.1, x.2.2.2.2.2.2.2.1, x.2.2.2.2.2.2.2.2.1, x.2.2.2.2.2.2.2.2.2.1, x.2.2.2.2.2.2.2.2.2.2.1, x.2.2.2.2.2.2.2.2.2.2.2.1, x.2.2.2.2.2.2.2.2.2.2.2.2.1, x.2.2.2.2.2.2.2.2.2.2.2.2.2.1, x.2.2.2.2.2.2.2.2.2.2.2.2.2.2.1, x.2.2.2.2.2.2.2.2.2.2.2.2.2.2.2.1, x.2.2.2.2.2.2.2.2.2.2.2.2.2.2.2.2.1, x.2.2.2.2.2.2.2.2.2.2.2.2.2.2.2.2.2)).bind fun z13 => (par_ret _)) (par_ret _)) (par_ret _)) (par_ret _))

def spec_ReadTxn_j6000003 (x : (Int × Int × Int × Int × Int × Int × Bool × ByteArray × ByteArray × Int × Bool × Int × Int × Int × Int × Bool × ByteArray × (List dRange) × (List dWrite))) (k : (Int × Int × Int × Int × Int × Int × Bool × ByteArray × ByteArray × Int × Bool × Int × Int × Int × Int × Bool × ByteArray × (List dRange) × (List dWrite)) → Option Res) : Option Res :=
    spec_l07ReadShort_k x.2.2.2.2.2.2.2.2.1 x.2.2.2.2.2.2.2.2.2.1 x.2.2.2.2.2.2.2.2.2.2.1 (fun y17 =>
      spec_l07ReadShort_k y17.2.1 y17.2.2.1 y17.2.2.2 (fun y18 =>
        spec_l07ReadBit_k y18.2.1 y18.2.2.1 y18.2.2.2 (fun y19 =>
          if x.2.2.2.2.2.2.2.2.2.2.2.2.2.2.2.2.2.2.length + [(y17.1, (y18.1, y19.1))].length ≤ VE.maxLen then
            k (x.1, (IntKind.wrap .i64 (x.2.1 + (1 : Int))), x.2.2.1, x.2.2.2.1, x.2.2.2.2.1, x.2.2.2.2.2.1, x.2.2.2.2.2.2.1, x.2.2.2.2.2.2.2.1, y19.2.1, y19.2.2.1, y19.2.2.2, x.2.2.2.2.2.2.2.2.2.2.2.1, x.2.2.2.2.2.2.2.2.2.2.2.2.1, x.2.2.2.2.2.2.2.2.2.2.2.2.2.1, x.2.2.2.2.2.2.2.2.2.2.2.2.2.2.1, x.2.2.2.2.2.2.2.2.2.2.2.2.2.2.2.1, x.2.2.2.2.2.2.2.2.2.2.2.2.2.2.2.2.1, x.2.2.2.2.2.2.2.2.2.2.2.2.2.2.2.2.2.1, (x.2.2.2.2.2.2.2.2.2.2.2.2.2.2.2.2.2.2 ++ [(y17.1, (y18.1, y19.1))]))
          else none)))

theorem spec_ReadTxn_jp6000003 (x : (Int × Int × Int × Int × Int × Int × Bool × ByteArray × ByteArray × Int × Bool × Int × Int × Int × Int × Bool × ByteArray × (List dRange) × (List dWrite))) : Par (spec_ReadTxn_j6000003 x) := by
  unfold spec_ReadTxn_j6000003
  exact ((spec_l07ReadShort_p x.2.2.2.2.2.2.2.2.1 x.2.2.2.2.2.2.2.2.2.1 x.2.2.2.2.2.2.2.2.2.2.1).bind fun y17 => ((spec_l07ReadShort_p y17.2.1 y17.2.2.1 y17.2.2.2).bind fun y18 => ((spec_l07ReadBit_p y18.2.1 y18.2.2.1 y18.2.2.2).bind fun y19 => (par_ite (c := x.2.2.2.2.2.2.2.2.2.2.2.2.2.2.2.2.2.2.length + [(y17.1, (y18.1, y19.1))].length ≤ VE.maxLen) (par_ret _) par_none))))

def spec_ReadTxn_b2 (x : (Int × Int × Int × Int × Int × Int × Bool × ByteArray × ByteArray × Int × Bool × Int × Int × Int × Int × Bool × ByteArray × (List dRange) × (List dWrite))) (k : (Int × Int × Int × Int × Int × Int × Bool × ByteArray × ByteArray × Int × Bool × Int × Int × Int × Int × Bool × ByteArray × (List dRange) × (List dWrite)) ⊕ (Int × Int × Int × Int × Int × Int × Bool × ByteArray × ByteArray × Int × Bool × Int × Int × Int × Int × Bool × ByteArray × (List dRange) × (List dWrite)) → Option Res) : Option Res :=
    bif (decide (x.2.1 < x.1)) then
      bif (decide (x.2.1 < (10 : Int))) then
        bif (!x.2.2.2.2.2.2.2.2.2.2.1) then
          spec_ReadTxn_j6000003 (x.1, x.2.1, x.2.2.1, x.2.2.2.1, x.2.2.2.2.1, x.2.2.2.2.2.1, x.2.2.2.2.2.2.1, x.2.2.2.2.2.2.2.1, x.2.2.2.2.2.2.2.2.1, x.2.2.2.2.2.2.2.2.2.1, x.2.2.2.2.2.2.2.2.2.2.1, x.2.2.2.2.2.2.2.2.2.2.2.1, x.2.2.2.2.2.2.2.2.2.2.2.2.1, x.2.2.2.2.2.2.2.2.2.2.2.2.2.1, x.2.2.2.2.2.2.2.2.2.2.2.2.2.2.1, x.2.2.2.2.2.2.2.2.2.2.2.2.2.2.2.1, x.2.2.2.2.2.2.2.2.2.2.2.2.2.2.2.2.1, x.2.2.2.2.2.2.2.2.2.2.2.2.2.2.2.2.2.1, x.2.2.2.2.2.2.2.2.2.2.2.2.2.2.2.2.2.2) (fun z14 =>
            k (.inl (z14.1, z14.2.1, z14.2.2.1, z14.2.2.2.1, z14.2.2.2.2.1, z14.2.2.2.2.2.1, z14.2.2.2.2.2.2.1, z14.2.2.2.2.2.2.2.1, z14.2.2.2.2.2.2.2.2.1, z14.2.2.2.2.2.2.2.2.2.1, z14.2.2.2.2.2.2.2.2.2.2.1, z14.2.2.2.2.2.2.2.2.2.2.2.1, z14.2.2.2.2.2.2.2.2.2.2.2.2.1, z14.2.2.2.2.2.2.2.2.2.2.2.2.2.1, z14.2.2.2.2.2.2.2.2.2.2.2.2.2.2.1, z14.2.2.2.2.2.2.2.2.2.2.2.2.2.2.2.1, z14.2.2.2.2.2.2.2.2.2.2.2.2.2.2.2.2.1, z14.2.2.2.2.2.2.2.2.2.2.2.2.2.2.2.2.2.1, z14.2.2.2.2.2.2.2.2.2.2.2.2.2.2.2.2.2.2)))
        else
          k (.inr (x.1, x.2.1, x.2.2.1, x.2.2.2.1, x.2.2.2.2.1, x.2.2.2.2.2.1, x.2.2.2.2.2.2.1, x.2.2.2.2.2.2.2.1, x.2.2.2.2.2.2.2.2.1, x.2.2.2.2.2.2.2.2.2.1, x.2.2.2.2.2.2.2.2.2.2.1, x.2.2.2.2.2.2.2.2.2.2.2.1, x.2.2.2.2.2.2.2.2.2.2.2.2.1, x.2.2.2.2.2.2.2.2.2.2.2.2.2.1, x.2.2.2.2.2.2.2.2.2.2.2.2.2.2.1, x.2.2.2.2.2.2.2.2.2.2.2.2.2.2.2.1, x.2.2.2.2.2.2.2.2.2.2.2.2.2.2.2.2.1, x.2.2.2.2.2.2.2.2.2.2.2.2.2.2.2.2.2.1, x.2.2.2.2.2.2.2.2.2.2.2.2.2.2.2.2.2.2))
      else
        k (.inr (x.1, x.2.1, x.2.2.1, x.2.2.2.1, x.2.2.2.2.1, x.2.2.2.2.2.1, x.2.2.2.2.2.2.1, x.2.2.2.2.2.2.2.1, x.2.2.2.2.2.2.2.2.1, x.2.2.2.2.2.2.2.2.2.1, x.2.2.2.2.2.2.2.2.2.2.1, x.2.2.2.2.2.2.2.2.2.2.2.1, x.2.2.2.2.2.2.2.2.2.2.2.2.1, x.2.2.2.2.2.2.2.2.2.2.2.2.2.1, x.2.2.2.2.2.2.2.2.2.2.2.2.2.2.1, x.2.2.2.2.2.2.2.2.2.2.2.2.2.2.2.1, x.2.2.2.2.2.2.2.2.2.2.2.2.2.2.2.2.1, x.2.2.2.2.2.2.2.2.2.2.2.2.2.2.2.2.2.1, x.2.2.2.2.2.2.2.2.2.2.2.2.2.2.2.2.2.2))
    else
      k (.inr (x.1, x.2.1, x.2.2.1, x.2.2.2.1, x.2.2.2.2.1, x.2.2.2.2.2.1, x.2.2.2.2.2.2.1, x.2.2.2.2.2.2.2.1, x.2.2.2.2.2.2.2.2.1, x.2.2.2.2.2.2.2.2.2.1, x.2.2.2.2.2.2.2.2.2.2.1, x.2.2.2.2.2.2.2.2.2.2.2.1, x.2.2.2.2.2.2.2.2.2.2.2.2.1, x.2.2.2.2.2.2.2.2.2.2.2.2.2.1, x.2.2.2.2.2.2.2.2.2.2.2.2.2.2.1, x.2.2.2.2.2.2.2.2.2.2.2.2.2.2.2.1, x.2.2.2.2.2.2.2.2.2.2.2.2.2.2.2.2.1, x.2.2.2.2.2.2.2.2.2.2.2.2.2.2.2.2.2.1, x.2.2.2.2.2.2.2.2.2.2.2.2.2.2.2.2.2.2))

theorem spec_ReadTxn_bp2 (x : (Int × Int × Int × Int × Int × Int × Bool × ByteArray × ByteArray × Int × Bool × Int × Int × Int × Int × Bool × ByteArray × (List dRange) × (List dWrite))) : Par (spec_ReadTxn_b2 x) := by
  unfold spec_ReadTxn_b2
  exact (par_bif (par_bif (par_bif ((spec_ReadTxn_jp6000003 (x.1, x.2.1, x.2.2.1, x.2.2.2.1, x.2.2.2.2.1, x.2.2.2.2.2.1, x.2.2.2.2.2.2.1, x.2.2.2.2.2.2.2.1, x.2.2.2.2.2.2.2.2.1, x.2.2.2.2.2.2.2.2.2.1, x.2.2.2.2.2.2.2.2.2.2.1, x.2.2.2.2.2.2.2.2.2.2.2.1, x.2.2.2.2.2.2.2.2.2.2.2.2.1, x.2.2.2.2.2.2.2.2.2.2.2.2.2.1, x.2.2.2.2.2.2.2.2.2.2.2.2.2.2.1, x.2.2.2.2.2.2.2.2.2.2.2.2.2.2.2.1, x.2.2.2.2.2.2.2.2.2.2.2.2.2.2.2.2.1, x.2.2.2.2.2.2.2.2.2.2.2.2.2.2.2.2.2.1, x.2.2.2.2.2.2.2.2.2.2.2.2.2.2.2.2.2.2)).bind fun z14 => (par_ret _)) (par_ret _)) (par_ret _)) (par_ret _))

def spec_ReadTxn_d (a0 : ByteArray) (a1 : Int) (k : (Int × Int × Int × Int × Bool × ByteArray × Int × Bool × (List dRange) × (List dWrite)) → Option Res) : Option Res :=
  spec_l07Var_k a0 a1 false (fun y1 =>
    spec_l07Var_k y1.2.1 y1.2.2.1 y1.2.2.2 (fun y2 =>
      spec_l07Var_k y2.2.1 y2.2.2.1 y2.2.2.2 (fun y3 =>
        spec_l07Var_k y3.2.1 y3.2.2.1 y3.2.2.2 (fun y4 =>
          spec_l07Var_k y4.2.1 y4.2.2.1 y4.2.2.2 (fun y5 =>
            loopK spec_ReadTxn_b0 Fuel (y5.1, (0 : Int), (0 : Int), (0 : Int), (0 : Int), (0 : Int), false, (⟨#[]⟩ : ByteArray), y5.2.1, y5.2.2.1, y5.2.2.2, y1.1, y2.1, y3.1, y4.1, false, (⟨#[]⟩ : ByteArray), ([] : List dRange)) (fun z6 =>
              spec_l07Var_k z6.2.2.2.2.2.2.2.2.1 z6.2.2.2.2.2.2.2.2.2.1 z6.2.2.2.2.2.2.2.2.2.2.1 (fun y7 =>
                loopK spec_ReadTxn_b2 Fuel (y7.1, (0 : Int), z6.2.2.1, z6.2.2.2.1, z6.2.2.2.2.1, z6.2.2.2.2.2.1, z6.2.2.2.2.2.2.1, z6.2.2.2.2.2.2.2.1, y7.2.1, y7.2.2.1, y7.2.2.2, z6.2.2.2.2.2.2.2.2.2.2.2.1, z6.2.2.2.2.2.2.2.2.2.2.2.2.1, z6.2.2.2.2.2.2.2.2.2.2.2.2.2.1, z6.2.2.2.2.2.2.2.2.2.2.2.2.2.2.1, z6.2.2.2.2.2.2.2.2.2.2.2.2.2.2.2.1, z6.2.2.2.2.2.2.2.2.2.2.2.2.2.2.2.2.1, z6.2.2.2.2.2.2.2.2.2.2.2.2.2.2.2.2.2, ([] : List dWrite)) (fun z8 =>
                  spec_l07ReadBit_k z8.2.2.2.2.2.2.2.2.1 z8.2.2.2.2.2.2.2.2.2.1 z8.2.2.2.2.2.2.2.2.2.2.1 (fun y9 =>
                    spec_l07ReadShort_k y9.2.1 y9.2.2.1 y9.2.2.2 (fun y10 =>
                      bif y10.2.2.2 then
                        k ((0 : Int), (0 : Int), (0 : Int), (0 : Int), false, (⟨#[]⟩ : ByteArray), (0 : Int), false, ([] : List dRange), ([] : List dWrite))
                      else
                        spec_TxnOk_k (z8.2.2.2.2.2.2.2.2.2.2.2.1, (z8.2.2.2.2.2.2.2.2.2.2.2.2.1, (z8.2.2.2.2.2.2.2.2.2.2.2.2.2.1, (z8.2.2.2.2.2.2.2.2.2.2.2.2.2.2.1, (z8.2.2.2.2.2.2.2.2.2.2.2.2.2.2.2.2.2.1, (z8.2.2.2.2.2.2.2.2.2.2.2.2.2.2.2.2.2.2, (y9.1, y10.1))))))) (fun y11 =>
                          bif (!y11) then
                            k ((0 : Int), (0 : Int), (0 : Int), (0 : Int), false, (⟨#[]⟩ : ByteArray), (0 : Int), false, ([] : List dRange), ([] : List dWrite))
                          else
                            spec_ReadTxn_j5000025 (z8.2.2.1, z8.2.2.2.1, z8.2.2.2.2.1, z8.2.2.2.2.2.1, z8.2.2.2.2.2.2.1, z8.2.2.2.2.2.2.2.1, y10.2.1, y10.2.2.1, y10.2.2.2, z8.2.2.2.2.2.2.2.2.2.2.2.1, z8.2.2.2.2.2.2.2.2.2.2.2.2.1, z8.2.2.2.2.2.2.2.2.2.2.2.2.2.1, z8.2.2.2.2.2.2.2.2.2.2.2.2.2.2.1, y9.1, y10.1, ([] : List dRange), ([] : List dWrite), z8.2.2.2.2.2.2.2.2.2.2.2.2.2.2.2.2.2.1, z8.2.2.2.2.2.2.2.2.2.2.2.2.2.2.2.2.2.2) (fun z12 =>
                              k (z12.2.2.1, z12.2.2.2.1, z12.2.2.2.2.1, z12.2.2.2.2.2.1, z12.2.2.2.2.2.2.1, z12.2.2.2.2.2.2.2.1, z12.1, z12.2.1, z12.2.2.2.2.2.2.2.2.2.2.2.2.2.2.2.2.2.1, z12.2.2.2.2.2.2.2.2.2.2.2.2.2.2.2.2.2.2)))))))))))))

theorem spec_ReadTxn_h : ∃ g : ByteArray → Int → ((Int × Int × Int × Int × Bool × ByteArray × Int × Bool × (List dRange) × (List dWrite)) → Option Res) → Option Res, g = spec_ReadTxn_d := ⟨_, rfl⟩
def spec_ReadTxn_k : ByteArray → Int → ((Int × Int × Int × Int × Bool × ByteArray × Int × Bool × (List dRange) × (List dWrite)) → Option Res) → Option Res := Classical.choose spec_ReadTxn_h
theorem spec_ReadTxn_e : spec_ReadTxn_k = spec_ReadTxn_d := Classical.choose_spec spec_ReadTxn_h

theorem spec_ReadTxn_p (a0 : ByteArray) (a1 : Int) : Par (spec_ReadTxn_k a0 a1) := by
  rw [spec_ReadTxn_e]
  unfold spec_ReadTxn_d
  exact ((spec_l07Var_p a0 a1 false).bind fun y1 => ((spec_l07Var_p y1.2.1 y1.2.2.1 y1.2.2.2).bind fun y2 => ((spec_l07Var_p y2.2.1 y2.2.2.1 y2.2.2.2).bind fun y3 => ((spec_l07Var_p y3.2.1 y3.2.2.1 y3.2.2.2).bind fun y4 => ((spec_l07Var_p y4.2.1 y4.2.2.1 y4.2.2.2).bind fun y5 => ((par_loop spec_ReadTxn_bp0 Fuel (y5.1, (0 : Int), (0 : Int), (0 : Int), (0 : Int), (0 : Int), false, (⟨#[]⟩ : ByteArray), y5.2.1, y5.2.2.1, y5.2.2.2, y1.1, y2.1, y3.1, y4.1, false, (⟨#[]⟩ : ByteArray), ([] : List dRange))).bind fun z6 => ((spec_l07Var_p z6.2.2.2.2.2.2.2.2.1 z6.2.2.2.2.2.2.2.2.2.1 z6.2.2.2.2.2.2.2.2.2.2.1).bind fun y7 => ((par_loop spec_ReadTxn_bp2 Fuel (y7.1, (0 : Int), z6.2.2.1, z6.2.2.2.1, z6.2.2.2.2.1, z6.2.2.2.2.2.1, z6.2.2.2.2.2.2.1, z6.2.2.2.2.2.2.2.1, y7.2.1, y7.2.2.1, y7.2.2.2, z6.2.2.2.2.2.2.2.2.2.2.2.1, z6.2.2.2.2.2.2.2.2.2.2.2.2.1, z6.2.2.2.2.2.2.2.2.2.2.2.2.2.1, z6.2.2.2.2.2.2.2.2.2.2.2.2.2.2.1, z6.2.2.2.2.2.2.2.2.2.2.2.2.2.2.2.1, z6.2.2.2.2.2.2.2.2.2.2.2.2.2.2.2.2.1, z6.2.2.2.2.2.2.2.2.2.2.2.2.2.2.2.2.2, ([] : List dWrite))).bind fun z8 => ((spec_l07ReadBit_p z8.2.2.2.2.2.2.2.2.1 z8.2.2.2.2.2.2.2.2.2.1 z8.2.2.2.2.2.2.2.2.2.2.1).bind fun y9 => ((spec_l07ReadShort_p y9.2.1 y9.2.2.1 y9.2.2.2).bind fun y10 => (par_bif (par_ret _) ((spec_TxnOk_p (z8.2.2.2.2.2.2.2.2.2.2.2.1, (z8.2.2.2.2.2.2.2.2.2.2.2.2.1, (z8.2.2.2.2.2.2.2.2.2.2.2.2.2.1, (z8.2.2.2.2.2.2.2.2.2.2.2.2.2.2.1, (z8.2.2.2.2.2.2.2.2.2.2.2.2.2.2.2.2.2.1, (z8.2.2.2.2.2.2.2.2.2.2.2.2.2.2.2.2.2.2, (y9.1, y10.1)))))))).bind fun y11 => (par_bif (par_ret _) ((spec_ReadTxn_jp5000025 (z8.2.2.1, z8.2.2.2.1, z8.2.2.2.2.1, z8.2.2.2.2.2.1, z8.2.2.2.2.2.2.1, z8.2.2.2.2.2.2.2.1, y10.2.1, y10.2.2.1, y10.2.2.2, z8.2.2.2.2.2.2.2.2.2.2.2.1, z8.2.2.2.2.2.2.2.2.2.2.2.2.1, z8.2.2.2.2.2.2.2.2.2.2.2.2.2.1, z8.2.2.2.2.2.2.2.2.2.2.2.2.2.2.1, y9.1, y10.1, ([] : List dRange), ([] : List dWrite), z8.2.2.2.2.2.2.2.2.2.2.2.2.2.2.2.2.2.1, z8.2.2.2.2.2.2.2.2.2.2.2.2.2.2.2.2.2.2)).bind fun z12 => (par_ret _)))))))))))))))

def impl_within_d (a0 : Int) (a1 : Int) (a2 : Int) (k : Bool → Option Res) : Option Res :=
  bif (decide (a0 ≥ a1)) then
    k (decide (a0 ≤ a2))
  else
    k false

theorem impl_within_h : ∃ g : Int → Int → Int → (Bool → Option Res) → Option Res, g = impl_within_d := ⟨_, rfl⟩
def impl_within_k : Int → Int → Int → (Bool → Option Res) → Option Res := Classical.choose impl_within_h
theorem impl_within_e : impl_within_k = impl_within_d := Classical.choose_spec impl_within_h

theorem impl_within_p (a0 : Int) (a1 : Int) (a2 : Int) : Par (impl_within_k a0 a1 a2) := by
  rw [impl_within_e]
  unfold impl_within_d
  exact (par_bif (par_ret _) (par_ret _))

def impl_VarText_b0 (x : (Int × (List Int))) (k : (Int × (List Int)) ⊕ (Int × (List Int)) → Option Res) : Option Res :=
    bif (decide (x.1 > (127 : Int))) then
      if x.2.length + [(IntKind.wrap .u8 (IntKind.wrap .i64 ((x.1.tmod (128 : Int)) + (128 : Int))))].length ≤ VE.maxLen then
        k (.inl ((IntKind.wrap .i64 (x.1.tdiv (128 : Int))), (x.2 ++ [(IntKind.wrap .u8 (IntKind.wrap .i64 ((x.1.tmod (128 : Int)) + (128 : Int))))])))
      else none
    else
      k (.inr (x.1, x.2))

theorem impl_VarText_bp0 (x : (Int × (List Int))) : Par (impl_VarText_b0 x) := by
  unfold impl_VarText_b0
  exact (par_bif (par_ite (c := x.2.length + [(IntKind.wrap .u8 (IntKind.wrap .i64 ((x.1.tmod (128 : Int)) + (128 : Int))))].length ≤ VE.maxLen) (par_ret _) par_none) (par_ret _))

def impl_VarText_d (a0 : Int) (k : (ByteArray × Bool) → Option Res) : Option Res :=
  impl_within_k a0 (0 : Int) (1000000000 : Int) (fun y1 =>
    bif (!y1) then
      k ((⟨#[]⟩ : ByteArray), false)
    else
      loopK impl_VarText_b0 Fuel (a0, ([] : List Int)) (fun z2 =>
        if z2.2.length + [(IntKind.wrap .u8 z2.1)].length ≤ VE.maxLen then
          k ((bytesOf (z2.2 ++ [(IntKind.wrap .u8 z2.1)])), true)
        else none))

theorem impl_VarText_h : ∃ g : Int → ((ByteArray × Bool) → Option Res) → Option Res, g = impl_VarText_d := ⟨_, rfl⟩
def impl_VarText_k : Int → ((ByteArray × Bool) → Option Res) → Option Res := Classical.choose impl_VarText_h
theorem impl_VarText_e : impl_VarText_k = impl_VarText_d := Classical.choose_spec impl_VarText_h

theorem impl_VarText_p (a0 : Int) : Par (impl_VarText_k a0) := by
  rw [impl_VarText_e]
  unfold impl_VarText_d
  exact ((impl_within_p a0 (0 : Int) (1000000000 : Int)).bind fun y1 => (par_bif (par_ret _) ((par_loop impl_VarText_bp0 Fuel (a0, ([] : List Int))).bind fun z2 => (par_ite (c := z2.2.length + [(IntKind.wrap .u8 z2.1)].length ≤ VE.maxLen) (par_ret _) par_none))))

def impl_ReadVar_j6000001 (x : (ByteArray × Int × Int × Int × Bool × Int × Int)) (k : ((ByteArray × Int × Int × Int × Bool × Int × Int) ⊕ (ByteArray × Int × Int × Int × Bool × Int × Int)) → Option Res) : Option Res :=
    if 0 ≤ (IntKind.wrap .i64 (x.2.1 + x.2.2.2.2.2.2)) ∧ (IntKind.wrap .i64 (x.2.1 + x.2.2.2.2.2.2)) < (x.1.size : Int) then
      if (IntKind.wrap .i64 ((7 : Int) * x.2.2.2.2.2.2)) < 0 then none else
        bif (decide ((IntKind.wrap .i64 (bt x.1 (IntKind.wrap .i64 (x.2.1 + x.2.2.2.2.2.2)))) < (128 : Int))) then
          impl_VarText_k (IntKind.wrap .i64 (x.2.2.2.2.2.1 + (IntKind.wrap .i64 (((IntKind.wrap .i64 (bt x.1 (IntKind.wrap .i64 (x.2.1 + x.2.2.2.2.2.2)))).tmod (128 : Int)) * 2 ^ (min (IntKind.wrap .i64 ((7 : Int) * x.2.2.2.2.2.2)).toNat (IntKind.bits .i64)))))) (fun y6 =>
            bif (!y6.2) then
              k (.inl (x.1, x.2.1, (0 : Int), (0 : Int), false, (IntKind.wrap .i64 (x.2.2.2.2.2.1 + (IntKind.wrap .i64 (((IntKind.wrap .i64 (bt x.1 (IntKind.wrap .i64 (x.2.1 + x.2.2.2.2.2.2)))).tmod (128 : Int)) * 2 ^ (min (IntKind.wrap .i64 ((7 : Int) * x.2.2.2.2.2.2)).toNat (IntKind.bits .i64)))))), x.2.2.2.2.2.2))
            else
              bif ((y6.1.size : Int) != (IntKind.wrap .i64 (x.2.2.2.2.2.2 + (1 : Int)))) then
                k (.inl (x.1, x.2.1, (0 : Int), (0 : Int), false, (IntKind.wrap .i64 (x.2.2.2.2.2.1 + (IntKind.wrap .i64 (((IntKind.wrap .i64 (bt x.1 (IntKind.wrap .i64 (x.2.1 + x.2.2.2.2.2.2)))).tmod (128 : Int)) * 2 ^ (min (IntKind.wrap .i64 ((7 : Int) * x.2.2.2.2.2.2)).toNat (IntKind.bits .i64)))))), x.2.2.2.2.2.2))
              else
                k (.inl (x.1, x.2.1, (IntKind.wrap .i64 (x.2.2.2.2.2.1 + (IntKind.wrap .i64 (((IntKind.wrap .i64 (bt x.1 (IntKind.wrap .i64 (x.2.1 + x.2.2.2.2.2.2)))).tmod (128 : Int)) * 2 ^ (min (IntKind.wrap .i64 ((7 : Int) * x.2.2.2.2.2.2)).toNat (IntKind.bits .i64)))))), (IntKind.wrap .i64 ((IntKind.wrap .i64 (x.2.1 + x.2.2.2.2.2.2)) + (1 : Int))), true, (IntKind.wrap .i64 (x.2.2.2.2.2.1 + (IntKind.wrap .i64 (((IntKind.wrap .i64 (bt x.1 (IntKind.wrap .i64 (x.2.1 + x.2.2.2.2.2.2)))).tmod (128 : Int)) * 2 ^ (min (IntKind.wrap .i64 ((7 : Int) * x.2.2.2.2.2.2)).toNat (IntKind.bits .i64)))))), x.2.2.2.2.2.2)))
        else
          k (.inr (x.1, x.2.1, x.2.2.1, x.2.2.2.1, x.2.2.2.2.1, (IntKind.wrap .i64 (x.2.2.2.2.2.1 + (IntKind.wrap .i64 (((IntKind.wrap .i64 (bt x.1 (IntKind.wrap .i64 (x.2.1 + x.2.2.2.2.2.2)))).tmod (128 : Int)) * 2 ^ (min (IntKind.wrap .i64 ((7 : Int) * x.2.2.2.2.2.2)).toNat (IntKind.bits .i64)))))), (IntKind.wrap .i64 (x.2.2.2.2.2.2 + (1 : Int)))))
    else none

theorem impl_ReadVar_jp6000001 (x : (ByteArray × Int × Int × Int × Bool × Int × Int)) : Par (impl_ReadVar_j6000001 x) := by
  unfold impl_ReadVar_j6000001
  exact (par_ite (c := 0 ≤ (IntKind.wrap .i64 (x.2.1 + x.2.2.2.2.2.2)) ∧ (IntKind.wrap .i64 (x.2.1 + x.2.2.2.2.2.2)) < (x.1.size : Int)) (par_ite (c := (IntKind.wrap .i64 ((7 : Int) * x.2.2.2.2.2.2)) < 0) par_none (par_bif ((impl_VarText_p (IntKind.wrap .i64 (x.2.2.2.2.2.1 + (IntKind.wrap .i64 (((IntKind.wrap .i64 (bt x.1 (IntKind.wrap .i64 (x.2.1 + x.2.2.2.2.2.2)))).tmod (128 : Int)) * 2 ^ (min (IntKind.wrap .i64 ((7 : Int) * x.2.2.2.2.2.2)).toNat (IntKind.bits .i64))))))).bind fun y6 => (par_bif (par_ret _) (par_bif (par_ret _) (par_ret _)))) (par_ret _))) par_none)

def impl_ReadVar_b0 (x : (ByteArray × Int × Int × Int × Bool × Int × Int)) (k : (ByteArray × Int × Int × Int × Bool × Int × Int) ⊕ ((ByteArray × Int × Int × Int × Bool × Int × Int) ⊕ (ByteArray × Int × Int × Int × Bool × Int × Int)) → Option Res) : Option Res :=
    bif (decide (x.2.2.2.2.2.2 < (5 : Int))) then
      bif (decide ((IntKind.wrap .i64 (x.2.1 + x.2.2.2.2.2.2)) < (x.1.size : Int))) then
        impl_ReadVar_j6000001 (x.1, x.2.1, x.2.2.1, x.2.2.2.1, x.2.2.2.2.1, x.2.2.2.2.2.1, x.2.2.2.2.2.2) (Sum.elim (fun z4 =>
          k (.inr (.inr (z4.1, z4.2.1, z4.2.2.1, z4.2.2.2.1, z4.2.2.2.2.1, z4.2.2.2.2.2.1, z4.2.2.2.2.2.2)))) (fun z5 =>
          k (.inl (z5.1, z5.2.1, z5.2.2.1, z5.2.2.2.1, z5.2.2.2.2.1, z5.2.2.2.2.2.1, z5.2.2.2.2.2.2))))
      else
        k (.inr (.inl (x.1, x.2.1, x.2.2.1, x.2.2.2.1, x.2.2.2.2.1, x.2.2.2.2.2.1, x.2.2.2.2.2.2)))
    else
      k (.inr (.inl (x.1, x.2.1, x.2.2.1, x.2.2.2.1, x.2.2.2.2.1, x.2.2.2.2.2.1, x.2.2.2.2.2.2)))

theorem impl_ReadVar_bp0 (x : (ByteArray × Int × Int × Int × Bool × Int × Int)) : Par (impl_ReadVar_b0 x) := by
  unfold impl_ReadVar_b0
  exact (par_bif (par_bif ((impl_ReadVar_jp6000001 (x.1, x.2.1, x.2.2.1, x.2.2.2.1, x.2.2.2.2.1, x.2.2.2.2.2.1, x.2.2.2.2.2.2)).bind2 (fun z4 => (par_ret _)) (fun z5 => (par_ret _))) (par_ret _)) (par_ret _))

def impl_ReadVar_d (a0 : ByteArray) (a1 : Int) (k : (Int × Int × Bool) → Option Res) : Option Res :=
  impl_within_k a1 (0 : Int) (a0.size : Int) (fun y1 =>
    bif (!y1) then
      k ((0 : Int), (0 : Int), false)
    else
      loopK impl_ReadVar_b0 Fuel (a0, a1, (0 : Int), (0 : Int), false, (0 : Int), (0 : Int)) (Sum.elim (fun _ =>
        k ((0 : Int), (0 : Int), false)) (fun z3 =>
        k (z3.2.2.1, z3.2.2.2.1, z3.2.2.2.2.1))))

theorem impl_ReadVar_h : ∃ g : ByteArray → Int → ((Int × Int × Bool) → Option Res) → Option Res, g = impl_ReadVar_d := ⟨_, rfl⟩
def impl_ReadVar_k : ByteArray → Int → ((Int × Int × Bool) → Option Res) → Option Res := Classical.choose impl_ReadVar_h
theorem impl_ReadVar_e : impl_ReadVar_k = impl_ReadVar_d := Classical.choose_spec impl_ReadVar_h

theorem impl_ReadVar_p (a0 : ByteArray) (a1 : Int) : Par (impl_ReadVar_k a0 a1) := by
  rw [impl_ReadVar_e]
  unfold impl_ReadVar_d
  exact ((impl_within_p a1 (0 : Int) (a0.size : Int)).bind fun y1 => (par_bif (par_ret _) ((par_loop impl_ReadVar_bp0 Fuel (a0, a1, (0 : Int), (0 : Int), false, (0 : Int), (0 : Int))).bind2 (fun z2 => (par_ret _)) (fun z3 => (par_ret _)))))

def impl_reader_num_d (a0 : ByteArray) (a1 : Int) (a2 : Bool) (k : (Int × ByteArray × Int × Bool) → Option Res) : Option Res :=
  impl_ReadVar_k a0 a1 (fun y1 =>
    bif a2 then
      k ((0 : Int), a0, a1, true)
    else
      bif (!y1.2.2) then
        k ((0 : Int), a0, a1, true)
      else
        k (y1.1, a0, y1.2.1, a2))

theorem impl_reader_num_h : ∃ g : ByteArray → Int → Bool → ((Int × ByteArray × Int × Bool) → Option Res) → Option Res, g = impl_reader_num_d := ⟨_, rfl⟩
def impl_reader_num_k : ByteArray → Int → Bool → ((Int × ByteArray × Int × Bool) → Option Res) → Option Res := Classical.choose impl_reader_num_h
theorem impl_reader_num_e : impl_reader_num_k = impl_reader_num_d := Classical.choose_spec impl_reader_num_h

theorem impl_reader_num_p (a0 : ByteArray) (a1 : Int) (a2 : Bool) : Par (impl_reader_num_k a0 a1 a2) := by
  rw [impl_reader_num_e]
  unfold impl_reader_num_d
  exact ((impl_ReadVar_p a0 a1).bind fun y1 => (par_bif (par_ret _) (par_bif (par_ret _) (par_ret _))))

def impl_ReadShort_d (a0 : ByteArray) (a1 : Int) (k : (ByteArray × Int × Bool) → Option Res) : Option Res :=
  impl_ReadVar_k a0 a1 (fun y1 =>
    bif (!y1.2.2) then
      k ((⟨#[]⟩ : ByteArray), (0 : Int), false)
    else
      bif (decide (y1.1 > (20000 : Int))) then
        k ((⟨#[]⟩ : ByteArray), (0 : Int), false)
      else
        bif (decide (y1.1 > (IntKind.wrap .i64 ((a0.size : Int) - y1.2.1)))) then
          k ((⟨#[]⟩ : ByteArray), (0 : Int), false)
        else
          if 0 ≤ y1.2.1 ∧ y1.2.1 ≤ (IntKind.wrap .i64 (y1.2.1 + y1.1)) ∧ (IntKind.wrap .i64 (y1.2.1 + y1.1)) ≤ (a0.size : Int) then
            k ((a0.extract y1.2.1.toNat (IntKind.wrap .i64 (y1.2.1 + y1.1)).toNat), (IntKind.wrap .i64 (y1.2.1 + y1.1)), true)
          else none)

theorem impl_ReadShort_h : ∃ g : ByteArray → Int → ((ByteArray × Int × Bool) → Option Res) → Option Res, g = impl_ReadShort_d := ⟨_, rfl⟩
def impl_ReadShort_k : ByteArray → Int → ((ByteArray × Int × Bool) → Option Res) → Option Res := Classical.choose impl_ReadShort_h
theorem impl_ReadShort_e : impl_ReadShort_k = impl_ReadShort_d := Classical.choose_spec impl_ReadShort_h

theorem impl_ReadShort_p (a0 : ByteArray) (a1 : Int) : Par (impl_ReadShort_k a0 a1) := by
  rw [impl_ReadShort_e]
  unfold impl_ReadShort_d
  exact ((impl_ReadVar_p a0 a1).bind fun y1 => (par_bif (par_ret _) (par_bif (par_ret _) (par_bif (par_ret _) (par_ite (c := 0 ≤ y1.2.1 ∧ y1.2.1 ≤ (IntKind.wrap .i64 (y1.2.1 + y1.1)) ∧ (IntKind.wrap .i64 (y1.2.1 + y1.1)) ≤ (a0.size : Int)) (par_ret _) par_none)))))

def impl_reader_text_d (a0 : ByteArray) (a1 : Int) (a2 : Bool) (k : (ByteArray × ByteArray × Int × Bool) → Option Res) : Option Res :=
  impl_ReadShort_k a0 a1 (fun y1 =>
    bif a2 then
      k ((⟨#[]⟩ : ByteArray), a0, a1, true)
    else
      bif (!y1.2.2) then
        k ((⟨#[]⟩ : ByteArray), a0, a1, true)
      else
        k (y1.1, a0, y1.2.1, a2))

theorem impl_reader_text_h : ∃ g : ByteArray → Int → Bool → ((ByteArray × ByteArray × Int × Bool) → Option Res) → Option Res, g = impl_reader_text_d := ⟨_, rfl⟩
def impl_reader_text_k : ByteArray → Int → Bool → ((ByteArray × ByteArray × Int × Bool) → Option Res) → Option Res := Classical.choose impl_reader_text_h
theorem impl_reader_text_e : impl_reader_text_k = impl_reader_text_d := Classical.choose_spec impl_reader_text_h

theorem impl_reader_text_p (a0 : ByteArray) (a1 : Int) (a2 : Bool) : Par (impl_reader_text_k a0 a1 a2) := by
  rw [impl_reader_text_e]
  unfold impl_reader_text_d
  exact ((impl_ReadShort_p a0 a1).bind fun y1 => (par_bif (par_ret _) (par_bif (par_ret _) (par_ret _))))

def impl_reader_txn_1_d (a0 : Int) (a1 : Int) (a2 : Int) (a3 : Int) (a4 : Bool) (a5 : ByteArray) (a6 : ByteArray) (a7 : Int) (a8 : Bool) (k : (Int × Int × Int × Int × Bool × ByteArray × ByteArray × Int × Bool × (List dRange)) → Option Res) : Option Res :=
  impl_reader_text_k a6 a7 a8 (fun y1 =>
    impl_reader_text_k y1.2.1 y1.2.2.1 y1.2.2.2 (fun y2 =>
      if [(y1.1, y2.1)].length ≤ VE.maxLen then
        k (a0, a1, a2, a3, a4, a5, y2.2.1, y2.2.2.1, y2.2.2.2, [(y1.1, y2.1)])
      else none))

theorem impl_reader_txn_1_h : ∃ g : Int → Int → Int → Int → Bool → ByteArray → ByteArray → Int → Bool → ((Int × Int × Int × Int × Bool × ByteArray × ByteArray × Int × Bool × (List dRange)) → Option Res) → Option Res, g = impl_reader_txn_1_d := ⟨_, rfl⟩
def impl_reader_txn_1_k : Int → Int → Int → Int → Bool → ByteArray → ByteArray → Int → Bool → ((Int × Int × Int × Int × Bool × ByteArray × ByteArray × Int × Bool × (List dRange)) → Option Res) → Option Res := Classical.choose impl_reader_txn_1_h
theorem impl_reader_txn_1_e : impl_reader_txn_1_k = impl_reader_txn_1_d := Classical.choose_spec impl_reader_txn_1_h

theorem impl_reader_txn_1_p (a0 : Int) (a1 : Int) (a2 : Int) (a3 : Int) (a4 : Bool) (a5 : ByteArray) (a6 : ByteArray) (a7 : Int) (a8 : Bool) : Par (impl_reader_txn_1_k a0 a1 a2 a3 a4 a5 a6 a7 a8) := by
  rw [impl_reader_txn_1_e]
  unfold impl_reader_txn_1_d
  exact ((impl_reader_text_p a6 a7 a8).bind fun y1 => ((impl_reader_text_p y1.2.1 y1.2.2.1 y1.2.2.2).bind fun y2 => (par_ite (c := [(y1.1, y2.1)].length ≤ VE.maxLen) (par_ret _) par_none)))

def impl_reader_txn_1_7316_d (a0 : Int) (a1 : Int) (a2 : Int) (a3 : Int) (a4 : Bool) (a5 : ByteArray) (a6 : (List dRange)) (a7 : ByteArray) (a8 : Int) (a9 : Bool) (k : (Int × Int × Int × Int × Bool × ByteArray × ByteArray × Int × Bool × (List dRange)) → Option Res) : Option Res :=
  impl_reader_text_k a7 a8 a9 (fun y1 =>
    impl_reader_text_k y1.2.1 y1.2.2.1 y1.2.2.2 (fun y2 =>
      if a6.length + [(y1.1, y2.1)].length ≤ VE.maxLen then
        k (a0, a1, a2, a3, a4, a5, y2.2.1, y2.2.2.1, y2.2.2.2, (a6 ++ [(y1.1, y2.1)]))
      else none))

theorem impl_reader_txn_1_7316_h : ∃ g : Int → Int → Int → Int → Bool → ByteArray → (List dRange) → ByteArray → Int → Bool → ((Int × Int × Int × Int × Bool × ByteArray × ByteArray × Int × Bool × (List dRange)) → Option Res) → Option Res, g = impl_reader_txn_1_7316_d := ⟨_, rfl⟩
def impl_reader_txn_1_7316_k : Int → Int → Int → Int → Bool → ByteArray → (List dRange) → ByteArray → Int → Bool → ((Int × Int × Int × Int × Bool × ByteArray × ByteArray × Int × Bool × (List dRange)) → Option Res) → Option Res := Classical.choose impl_reader_txn_1_7316_h
theorem impl_reader_txn_1_7316_e : impl_reader_txn_1_7316_k = impl_reader_txn_1_7316_d := Classical.choose_spec impl_reader_txn_1_7316_h

theorem impl_reader_txn_1_7316_p (a0 : Int) (a1 : Int) (a2 : Int) (a3 : Int) (a4 : Bool) (a5 : ByteArray) (a6 : (List dRange)) (a7 : ByteArray) (a8 : Int) (a9 : Bool) : Par (impl_reader_txn_1_7316_k a0 a1 a2 a3 a4 a5 a6 a7 a8 a9) := by
  rw [impl_reader_txn_1_7316_e]
  unfold impl_reader_txn_1_7316_d
  exact ((impl_reader_text_p a7 a8 a9).bind fun y1 => ((impl_reader_text_p y1.2.1 y1.2.2.1 y1.2.2.2).bind fun y2 => (par_ite (c := a6.length + [(y1.1, y2.1)].length ≤ VE.maxLen) (par_ret _) par_none)))

def impl_reader_each_reader_txn_1_j6000001 (x : (Int × Int × ByteArray × Int × Bool × Int × Int × Int × Int × Bool × ByteArray × (List dRange))) (k : (Int × Int × ByteArray × Int × Bool × Int × Int × Int × Int × Bool × ByteArray × (List dRange)) → Option Res) : Option Res :=
    impl_reader_txn_1_7316_k x.2.2.2.2.2.1 x.2.2.2.2.2.2.1 x.2.2.2.2.2.2.2.1 x.2.2.2.2.2.2.2.2.1 x.2.2.2.2.2.2.2.2.2.1 x.2.2.2.2.2.2.2.2.2.2.1 x.2.2.2.2.2.2.2.2.2.2.2 x.2.2.1 x.2.2.2.1 x.2.2.2.2.1 (fun y4 =>
      k (x.1, (IntKind.wrap .i64 (x.2.1 + (1 : Int))), y4.2.2.2.2.2.2.1, y4.2.2.2.2.2.2.2.1, y4.2.2.2.2.2.2.2.2.1, y4.1, y4.2.1, y4.2.2.1, y4.2.2.2.1, y4.2.2.2.2.1, y4.2.2.2.2.2.1, y4.2.2.2.2.2.2.2.2.2))

theorem impl_reader_each_reader_txn_1_jp6000001 (x : (Int × Int × ByteArray × Int × Bool × Int × Int × Int × Int × Bool × ByteArray × (List dRange))) : Par (impl_reader_each_reader_txn_1_j6000001 x) := by
  unfold impl_reader_each_reader_txn_1_j6000001
  exact ((impl_reader_txn_1_7316_p x.2.2.2.2.2.1 x.2.2.2.2.2.2.1 x.2.2.2.2.2.2.2.1 x.2.2.2.2.2.2.2.2.1 x.2.2.2.2.2.2.2.2.2.1 x.2.2.2.2.2.2.2.2.2.2.1 x.2.2.2.2.2.2.2.2.2.2.2 x.2.2.1 x.2.2.2.1 x.2.2.2.2.1).bind fun y4 => (par_ret _))

def impl_reader_each_reader_txn_1_b0 (x : (Int × Int × ByteArray × Int × Bool × Int × Int × Int × Int × Bool × ByteArray × (List dRange))) (k : (Int × Int × ByteArray × Int × Bool × Int × Int × Int × Int × Bool × ByteArray × (List dRange)) ⊕ (Int × Int × ByteArray × Int × Bool × Int × Int × Int × Int × Bool × ByteArray × (List dRange)) → Option Res) : Option Res :=
    bif (decide (x.2.1 < x.1)) then
      bif (!x.2.2.2.2.1) then
        impl_reader_each_reader_txn_1_j6000001 (x.1, x.2.1, x.2.2.1, x.2.2.2.1, x.2.2.2.2.1, x.2.2.2.2.2.1, x.2.2.2.2.2.2.1, x.2.2.2.2.2.2.2.1, x.2.2.2.2.2.2.2.2.1, x.2.2.2.2.2.2.2.2.2.1, x.2.2.2.2.2.2.2.2.2.2.1, x.2.2.2.2.2.2.2.2.2.2.2) (fun z3 =>
          k (.inl (z3.1, z3.2.1, z3.2.2.1, z3.2.2.2.1, z3.2.2.2.2.1, z3.2.2.2.2.2.1, z3.2.2.2.2.2.2.1, z3.2.2.2.2.2.2.2.1, z3.2.2.2.2.2.2.2.2.1, z3.2.2.2.2.2.2.2.2.2.1, z3.2.2.2.2.2.2.2.2.2.2.1, z3.2.2.2.2.2.2.2.2.2.2.2)))
      else
        k (.inr (x.1, x.2.1, x.2.2.1, x.2.2.2.1, x.2.2.2.2.1, x.2.2.2.2.2.1, x.2.2.2.2.2.2.1, x.2.2.2.2.2.2.2.1, x.2.2.2.2.2.2.2.2.1, x.2.2.2.2.2.2.2.2.2.1, x.2.2.2.2.2.2.2.2.2.2.1, x.2.2.2.2.2.2.2.2.2.2.2))
    else
      k (.inr (x.1, x.2.1, x.2.2.1, x.2.2.2.1, x.2.2.2.2.1, x.2.2.2.2.2.1, x.2.2.2.2.2.2.1, x.2.2.2.2.2.2.2.1, x.2.2.2.2.2.2.2.2.1, x.2.2.2.2.2.2.2.2.2.1, x.2.2.2.2.2.2.2.2.2.2.1, x.2.2.2.2.2.2.2.2.2.2.2))

theorem impl_reader_each_reader_txn_1_bp0 (x : (Int × Int × ByteArray × Int × Bool × Int × Int × Int × Int × Bool × ByteArray × (List dRange))) : Par (impl_reader_each_reader_txn_1_b0 x) := by
  unfold impl_reader_each_reader_txn_1_b0
  exact (par_bif (par_bif ((impl_reader_each_reader_txn_1_jp6000001 (x.1, x.2.1, x.2.2.1, x.2.2.2.1, x.2.2.2.2.1, x.2.2.2.2.2.1, x.2.2.2.2.2.2.1, x.2.2.2.2.2.2.2.1, x.2.2.2.2.2.2.2.2.1, x.2.2.2.2.2.2.2.2.2.1, x.2.2.2.2.2.2.2.2.2.2.1, x.2.2.2.2.2.2.2.2.2.2.2)).bind fun z3 => (par_ret _)) (par_ret _)) (par_ret _))

def impl_reader_each_reader_txn_1_d (a0 : ByteArray) (a1 : Int) (a2 : Bool) (a3 : Int) (a4 : Int) (a5 : Int) (a6 : Int) (a7 : Bool) (a8 : ByteArray) (k : (ByteArray × Int × Bool × Int × Int × Int × Int × Bool × ByteArray × (List dRange)) → Option Res) : Option Res :=
  impl_reader_num_k a0 a1 a2 (fun y1 =>
    loopK impl_reader_each_reader_txn_1_b0 Fuel (y1.1, (0 : Int), y1.2.1, y1.2.2.1, y1.2.2.2, a3, a4, a5, a6, a7, a8, ([] : List dRange)) (fun z2 =>
      k (z2.2.2.1, z2.2.2.2.1, z2.2.2.2.2.1, z2.2.2.2.2.2.1, z2.2.2.2.2.2.2.1, z2.2.2.2.2.2.2.2.1, z2.2.2.2.2.2.2.2.2.1, z2.2.2.2.2.2.2.2.2.2.1, z2.2.2.2.2.2.2.2.2.2.2.1, z2.2.2.2.2.2.2.2.2.2.2.2)))

theorem impl_reader_each_reader_txn_1_h : ∃ g : ByteArray → Int → Bool → Int → Int → Int → Int → Bool → ByteArray → ((ByteArray × Int × Bool × Int × Int × Int × Int × Bool × ByteArray × (List dRange)) → Option Res) → Option Res, g = impl_reader_each_reader_txn_1_d := ⟨_, rfl⟩
def impl_reader_each_reader_txn_1_k : ByteArray → Int → Bool → Int → Int → Int → Int → Bool → ByteArray → ((ByteArray × Int × Bool × Int × Int × Int × Int × Bool × ByteArray × (List dRange)) → Option Res) → Option Res := Classical.choose impl_reader_each_reader_txn_1_h
theorem impl_reader_each_reader_txn_1_e : impl_reader_each_reader_txn_1_k = impl_reader_each_reader_txn_1_d := Classical.choose_spec impl_reader_each_reader_txn_1_h

theorem impl_reader_each_reader_txn_1_p (a0 : ByteArray) (a1 : Int) (a2 : Bool) (a3 : Int) (a4 : Int) (a5 : Int) (a6 : Int) (a7 : Bool) (a8 : ByteArray) : Par (impl_reader_each_reader_txn_1_k a0 a1 a2 a3 a4 a5 a6 a7 a8) := by
  rw [impl_reader_each_reader_txn_1_e]
  unfold impl_reader_each_reader_txn_1_d
  exact ((impl_reader_num_p a0 a1 a2).bind fun y1 => ((par_loop impl_reader_each_reader_txn_1_bp0 Fuel (y1.1, (0 : Int), y1.2.1, y1.2.2.1, y1.2.2.2, a3, a4, a5, a6, a7, a8, ([] : List dRange))).bind fun z2 => (par_ret _)))

def impl_reader_flag_j5000004 (x : (Bool × ByteArray × Int × Bool)) (k : (Bool × ByteArray × Int × Bool) → Option Res) : Option Res :=
    if 0 ≤ (IntKind.wrap .i64 ((IntKind.wrap .i64 (x.2.2.1 + (1 : Int))) - (1 : Int))) ∧ (IntKind.wrap .i64 ((IntKind.wrap .i64 (x.2.2.1 + (1 : Int))) - (1 : Int))) < (x.2.1.size : Int) then
      k (((bt x.2.1 (IntKind.wrap .i64 ((IntKind.wrap .i64 (x.2.2.1 + (1 : Int))) - (1 : Int)))) == (1 : Int)), x.2.1, (IntKind.wrap .i64 (x.2.2.1 + (1 : Int))), x.2.2.2)
    else none

theorem impl_reader_flag_jp5000004 (x : (Bool × ByteArray × Int × Bool)) : Par (impl_reader_flag_j5000004 x) := by
  unfold impl_reader_flag_j5000004
  exact (par_ite (c := 0 ≤ (IntKind.wrap .i64 ((IntKind.wrap .i64 (x.2.2.1 + (1 : Int))) - (1 : Int))) ∧ (IntKind.wrap .i64 ((IntKind.wrap .i64 (x.2.2.1 + (1 : Int))) - (1 : Int))) < (x.2.1.size : Int)) (par_ret _) par_none)

def impl_reader_flag_d (a0 : ByteArray) (a1 : Int) (a2 : Bool) (k : (Bool × ByteArray × Int × Bool) → Option Res) : Option Res :=
  bif a2 then
    k (false, a0, a1, true)
  else
    impl_within_k a1 (0 : Int) (IntKind.wrap .i64 ((a0.size : Int) - (1 : Int))) (fun y1 =>
      bif (!y1) then
        k (false, a0, a1, true)
      else
        if 0 ≤ a1 ∧ a1 < (a0.size : Int) then
          bif (decide ((bt a0 a1) > (1 : Int))) then
            k (false, a0, a1, true)
          else
            impl_reader_flag_j5000004 (false, a0, a1, a2) (fun z2 =>
              k (z2.1, z2.2.1, z2.2.2.1, z2.2.2.2))
        else none)

theorem impl_reader_flag_h : ∃ g : ByteArray → Int → Bool → ((Bool × ByteArray × Int × Bool) → Option Res) → Option Res, g = impl_reader_flag_d := ⟨_, rfl⟩
def impl_reader_flag_k : ByteArray → Int → Bool → ((Bool × ByteArray × Int × Bool) → Option Res) → Option Res := Classical.choose impl_reader_flag_h
theorem impl_reader_flag_e : impl_reader_flag_k = impl_reader_flag_d := Classical.choose_spec impl_reader_flag_h

theorem impl_reader_flag_p (a0 : ByteArray) (a1 : Int) (a2 : Bool) : Par (impl_reader_flag_k a0 a1 a2) := by
  rw [impl_reader_flag_e]
  unfold impl_reader_flag_d
  exact (par_bif (par_ret _) ((impl_within_p a1 (0 : Int) (IntKind.wrap .i64 ((a0.size : Int) - (1 : Int)))).bind fun y1 => (par_bif (par_ret _) (par_ite (c := 0 ≤ a1 ∧ a1 < (a0.size : Int)) (par_bif (par_ret _) ((impl_reader_flag_jp5000004 (false, a0, a1, a2)).bind fun z2 => (par_ret _))) par_none))))

def impl_reader_txn_2_d (a0 : Int) (a1 : Int) (a2 : Int) (a3 : Int) (a4 : Bool) (a5 : ByteArray) (a6 : ByteArray) (a7 : Int) (a8 : Bool) (a9 : (List dRange)) (k : (Int × Int × Int × Int × Bool × ByteArray × ByteArray × Int × Bool × (List dRange) × (List dWrite)) → Option Res) : Option Res :=
  impl_reader_text_k a6 a7 a8 (fun y1 =>
    impl_reader_text_k y1.2.1 y1.2.2.1 y1.2.2.2 (fun y2 =>
      impl_reader_flag_k y2.2.1 y2.2.2.1 y2.2.2.2 (fun y3 =>
        if [(y1.1, (y2.1, y3.1))].length ≤ VE.maxLen then
          k (a0, a1, a2, a3, a4, a5, y3.2.1, y3.2.2.1, y3.2.2.2, a9, [(y1.1, (y2.1, y3.1))])
        else none)))

theorem impl_reader_txn_2_h : ∃ g : Int → Int → Int → Int → Bool → ByteArray → ByteArray → Int → Bool → (List dRange) → ((Int × Int × Int × Int × Bool × ByteArray × ByteArray × Int × Bool × (List dRange) × (List dWrite)) → Option Res) → Option Res, g = impl_reader_txn_2_d := ⟨_, rfl⟩
def impl_reader_txn_2_k : Int → Int → Int → Int → Bool → ByteArray → ByteArray → Int → Bool → (List dRange) → ((Int × Int × Int × Int × Bool × ByteArray × ByteArray × Int × Bool × (List dRange) × (List dWrite)) → Option Res) → Option Res := Classical.choose impl_reader_txn_2_h
theorem impl_reader_txn_2_e : impl_reader_txn_2_k = impl_reader_txn_2_d := Classical.choose_spec impl_reader_txn_2_h

theorem impl_reader_txn_2_p (a0 : Int) (a1 : Int) (a2 : Int) (a3 : Int) (a4 : Bool) (a5 : ByteArray) (a6 : ByteArray) (a7 : Int) (a8 : Bool) (a9 : (List dRange)) : Par (impl_reader_txn_2_k a0 a1 a2 a3 a4 a5 a6 a7 a8 a9) := by
  rw [impl_reader_txn_2_e]
  unfold impl_reader_txn_2_d
  exact ((impl_reader_text_p a6 a7 a8).bind fun y1 => ((impl_reader_text_p y1.2.1 y1.2.2.1 y1.2.2.2).bind fun y2 => ((impl_reader_flag_p y2.2.1 y2.2.2.1 y2.2.2.2).bind fun y3 => (par_ite (c := [(y1.1, (y2.1, y3.1))].length ≤ VE.maxLen) (par_ret _) par_none))))

def impl_reader_txn_2_fd82_d (a0 : Int) (a1 : Int) (a2 : Int) (a3 : Int) (a4 : Bool) (a5 : ByteArray) (a6 : ByteArray) (a7 : Int) (a8 : Bool) (a9 : (List dRange)) (a10 : (List dWrite)) (k : (Int × Int × Int × Int × Bool × ByteArray × ByteArray × Int × Bool × (List dRange) × (List dWrite)) → Option Res) : Option Res :=
  impl_reader_text_k a6 a7 a8 (fun y1 =>
    impl_reader_text_k y1.2.1 y1.2.2.1 y1.2.2.2 (fun y2 =>
      impl_reader_flag_k y2.2.1 y2.2.2.1 y2.2.2.2 (fun y3 =>
        if a10.length + [(y1.1, (y2.1, y3.1))].length ≤ VE.maxLen then
          k (a0, a1, a2, a3, a4, a5, y3.2.1, y3.2.2.1, y3.2.2.2, a9, (a10 ++ [(y1.1, (y2.1, y3.1))]))
        else none)))

theorem impl_reader_txn_2_fd82_h : ∃ g : Int → Int → Int → Int → Bool → ByteArray → ByteArray → Int → Bool → (List dRange) → (List dWrite) → ((Int × Int × Int × Int × Bool × ByteArray × ByteArray × Int × Bool × (List dRange) × (List dWrite)) → Option Res) → Option Res, g = impl_reader_txn_2_fd82_d := ⟨_, rfl⟩
def impl_reader_txn_2_fd82_k : Int → Int → Int → Int → Bool → ByteArray → ByteArray → Int → Bool → (List dRange) → (List dWrite) → ((Int × Int × Int × Int × Bool × ByteArray × ByteArray × Int × Bool × (List dRange) × (List dWrite)) → Option Res) → Option Res := Classical.choose impl_reader_txn_2_fd82_h
theorem impl_reader_txn_2_fd82_e : impl_reader_txn_2_fd82_k = impl_reader_txn_2_fd82_d := Classical.choose_spec impl_reader_txn_2_fd82_h

theorem impl_reader_txn_2_fd82_p (a0 : Int) (a1 : Int) (a2 : Int) (a3 : Int) (a4 : Bool) (a5 : ByteArray) (a6 : ByteArray) (a7 : Int) (a8 : Bool) (a9 : (List dRange)) (a10 : (List dWrite)) : Par (impl_reader_txn_2_fd82_k a0 a1 a2 a3 a4 a5 a6 a7 a8 a9 a10) := by
  rw [impl_reader_txn_2_fd82_e]
  unfold impl_reader_txn_2_fd82_d
  exact ((impl_reader_text_p a6 a7 a8).bind fun y1 => ((impl_reader_text_p y1.2.1 y1.2.2.1 y1.2.2.2).bind fun y2 => ((impl_reader_flag_p y2.2.1 y2.2.2.1 y2.2.2.2).bind fun y3 => (par_ite (c := a10.length + [(y1.1, (y2.1, y3.1))].length ≤ VE.maxLen) (par_ret _) par_none))))

def impl_reader_each_reader_txn_2_j6000001 (x : (Int × Int × ByteArray × Int × Bool × Int × Int × Int × Int × Bool × ByteArray × (List dRange) × (List dWrite))) (k : (Int × Int × ByteArray × Int × Bool × Int × Int × Int × Int × Bool × ByteArray × (List dRange) × (List dWrite)) → Option Res) : Option Res :=
    impl_reader_txn_2_fd82_k x.2.2.2.2.2.1 x.2.2.2.2.2.2.1 x.2.2.2.2.2.2.2.1 x.2.2.2.2.2.2.2.2.1 x.2.2.2.2.2.2.2.2.2.1 x.2.2.2.2.2.2.2.2.2.2.1 x.2.2.1 x.2.2.2.1 x.2.2.2.2.1 x.2.2.2.2.2.2.2.2.2.2.2.1 x.2.2.2.2.2.2.2.2.2.2.2.2 (fun y4 =>
      k (x.1, (IntKind.wrap .i64 (x.2.1 + (1 : Int))), y4.2.2.2.2.2.2.1, y4.2.2.2.2.2.2.2.1, y4.2.2.2.2.2.2.2.2.1, y4.1, y4.2.1, y4.2.2.1, y4.2.2.2.1, y4.2.2.2.2.1, y4.2.2.2.2.2.1, y4.2.2.2.2.2.2.2.2.2.1, y4.2.2.2.2.2.2.2.2.2.2))

theorem impl_reader_each_reader_txn_2_jp6000001 (x : (Int × Int × ByteArray × Int × Bool × Int × Int × Int × Int × Bool × ByteArray × (List dRange) × (List dWrite))) : Par (impl_reader_each_reader_txn_2_j6000001 x) := by
  unfold impl_reader_each_reader_txn_2_j6000001
  exact ((impl_reader_txn_2_fd82_p x.2.2.2.2.2.1 x.2.2.2.2.2.2.1 x.2.2.2.2.2.2.2.1 x.2.2.2.2.2.2.2.2.1 x.2.2.2.2.2.2.2.2.2.1 x.2.2.2.2.2.2.2.2.2.2.1 x.2.2.1 x.2.2.2.1 x.2.2.2.2.1 x.2.2.2.2.2.2.2.2.2.2.2.1 x.2.2.2.2.2.2.2.2.2.2.2.2).bind fun y4 => (par_ret _))

def impl_reader_each_reader_txn_2_b0 (x : (Int × Int × ByteArray × Int × Bool × Int × Int × Int × Int × Bool × ByteArray × (List dRange) × (List dWrite))) (k : (Int × Int × ByteArray × Int × Bool × Int × Int × Int × Int × Bool × ByteArray × (List dRange) × (List dWrite)) ⊕ (Int × Int × ByteArray × Int × Bool × Int × Int × Int × Int × Bool × ByteArray × (List dRange) × (List dWrite)) → Option Res) : Option Res :=
    bif (decide (x.2.1 < x.1)) then
      bif (!x.2.2.2.2.1) then
        impl_reader_each_reader_txn_2_j6000001 (x.1, x.2.1, x.2.2.1, x.2.2.2.1, x.2.2.2.2.1, x.2.2.2.2.2.1, x.2.2.2.2.2.2.1, x.2.2.2.2.2.2.2.1, x.2.2.2.2.2.2.2.2.1, x.2.2.2.2.2.2.2.2.2.1, x.2.2.2.2.2.2.2.2.2.2.1, x.2.2.2.2.2.2.2.2.2.2.2.1, x.2.2.2.2.2.2.2.2.2.2.2.2) (fun z3 =>
          k (.inl (z3.1, z3.2.1, z3.2.2.1, z3.2.2.2.1, z3.2.2.2.2.1, z3.2.2.2.2.2.1, z3.2.2.2.2.2.2.1, z3.2.2.2.2.2.2.2.1, z3.2.2.2.2.2.2.2.2.1, z3.2.2.2.2.2.2.2.2.2.1, z3.2.2.2.2.2.2.2.2.2.2.1, z3.2.2.2.2.2.2.2.2.2.2.2.1, z3.2.2.2.2.2.2.2.2.2.2.2.2)))
      else
        k (.inr (x.1, x.2.1, x.2.2.1, x.2.2.2.1, x.2.2.2.2.1, x.2.2.2.2.2.1, x.2.2.2.2.2.2.1, x.2.2.2.2.2.2.2.1, x.2.2.2.2.2.2.2.2.1, x.2.2.2.2.2.2.2.2.2.1, x.2.2.2.2.2.2.2.2.2.2.1, x.2.2.2.2.2.2.2.2.2.2.2.1, x.2.2.2.2.2.2.2.2.2.2.2.2))
    else
      k (.inr (x.1, x.2.1, x.2.2.1, x.2.2.2.1, x.2.2.2.2.1, x.2.2.2.2.2.1, x.2.2.2.2.2.2.1, x.2.2.2.2.2.2.2.1, x.2.2.2.2.2.2.2.2.1, x.2.2.2.2.2.2.2.2.2.1, x.2.2.2.2.2.2.2.2.2.2.1, x.2.2.2.2.2.2.2.2.2.2.2.1, x.2.2.2.2.2.2.2.2.2.2.2.2))

theorem impl_reader_each_reader_txn_2_bp0 (x : (Int × Int × ByteArray × Int × Bool × Int × Int × Int × Int × Bool × ByteArray × (List dRange) × (List dWrite))) : Par (impl_reader_each_reader_txn_2_b0 x) := by
  unfold impl_reader_each_reader_txn_2_b0
  exact (par_bif (par_bif ((impl_reader_each_reader_txn_2_jp6000001 (x.1, x.2.1, x.2.2.1, x.2.2.2.1, x.2.2.2.2.1, x.2.2.2.2.2.1, x.2.2.2.2.2.2.1, x.2.2.2.2.2.2.2.1, x.2.2.2.2.2.2.2.2.1, x.2.2.2.2.2.2.2.2.2.1, x.2.2.2.2.2.2.2.2.2.2.1, x.2.2.2.2.2.2.2.2.2.2.2.1, x.2.2.2.2.2.2.2.2.2.2.2.2)).bind fun z3 => (par_ret _)) (par_ret _)) (par_ret _))

def impl_reader_each_reader_txn_2_d (a0 : ByteArray) (a1 : Int) (a2 : Bool) (a3 : Int) (a4 : Int) (a5 : Int) (a6 : Int) (a7 : Bool) (a8 : ByteArray) (a9 : (List dRange)) (k : (ByteArray × Int × Bool × Int × Int × Int × Int × Bool × ByteArray × (List dRange) × (List dWrite)) → Option Res) : Option Res :=
  impl_reader_num_k a0 a1 a2 (fun y1 =>
    loopK impl_reader_each_reader_txn_2_b0 Fuel (y1.1, (0 : Int), y1.2.1, y1.2.2.1, y1.2.2.2, a3, a4, a5, a6, a7, a8, a9, ([] : List dWrite)) (fun z2 =>
      k (z2.2.2.1, z2.2.2.2.1, z2.2.2.2.2.1, z2.2.2.2.2.2.1, z2.2.2.2.2.2.2.1, z2.2.2.2.2.2.2.2.1, z2.2.2.2.2.2.2.2.2.1, z2.2.2.2.2.2.2.2.2.2.1, z2.2.2.2.2.2.2.2.2.2.2.1, z2.2.2.2.2.2.2.2.2.2.2.2.1, z2.2.2.2.2.2.2.2.2.2.2.2.2)))

theorem impl_reader_each_reader_txn_2_h : ∃ g : ByteArray → Int → Bool → Int → Int → Int → Int → Bool → ByteArray → (List dRange) → ((ByteArray × Int × Bool × Int × Int × Int × Int × Bool × ByteArray × (List dRange) × (List dWrite)) → Option Res) → Option Res, g = impl_reader_each_reader_txn_2_d := ⟨_, rfl⟩
def impl_reader_each_reader_txn_2_k : ByteArray → Int → Bool → Int → Int → Int → Int → Bool → ByteArray → (List dRange) → ((ByteArray × Int × Bool × Int × Int × Int × Int × Bool × ByteArray × (List dRange) × (List dWrite)) → Option Res) → Option Res := Classical.choose impl_reader_each_reader_txn_2_h
theorem impl_reader_each_reader_txn_2_e : impl_reader_each_reader_txn_2_k = impl_reader_each_reader_txn_2_d := Classical.choose_spec impl_reader_each_reader_txn_2_h

theorem impl_reader_each_reader_txn_2_p (a0 : ByteArray) (a1 : Int) (a2 : Bool) (a3 : Int) (a4 : Int) (a5 : Int) (a6 : Int) (a7 : Bool) (a8 : ByteArray) (a9 : (List dRange)) : Par (impl_reader_each_reader_txn_2_k a0 a1 a2 a3 a4 a5 a6 a7 a8 a9) := by
  rw [impl_reader_each_reader_txn_2_e]
  unfold impl_reader_each_reader_txn_2_d
  exact ((impl_reader_num_p a0 a1 a2).bind fun y1 => ((par_loop impl_reader_each_reader_txn_2_bp0 Fuel (y1.1, (0 : Int), y1.2.1, y1.2.2.1, y1.2.2.2, a3, a4, a5, a6, a7, a8, a9, ([] : List dWrite))).bind fun z2 => (par_ret _)))

def impl_KeyOk_b0 (x : (ByteArray × Bool × Int)) (k : (ByteArray × Bool × Int) ⊕ ((ByteArray × Bool × Int) ⊕ (ByteArray × Bool × Int)) → Option Res) : Option Res :=
    bif (decide (x.2.2 < (x.1.size : Int))) then
      if 0 ≤ x.2.2 ∧ x.2.2 < (x.1.size : Int) then
        bif (decide ((bt x.1 x.2.2) < (97 : Int))) then
          k (.inr (.inl (x.1, false, x.2.2)))
        else
          if 0 ≤ x.2.2 ∧ x.2.2 < (x.1.size : Int) then
            bif (decide ((bt x.1 x.2.2) > (122 : Int))) then
              k (.inr (.inl (x.1, false, x.2.2)))
            else
              k (.inl (x.1, x.2.1, (IntKind.wrap .i64 (x.2.2 + (1 : Int)))))
          else none
      else none
    else
      k (.inr (.inr (x.1, x.2.1, x.2.2)))

theorem impl_KeyOk_bp0 (x : (ByteArray × Bool × Int)) : Par (impl_KeyOk_b0 x) := by
  unfold impl_KeyOk_b0
  exact (par_bif (par_ite (c := 0 ≤ x.2.2 ∧ x.2.2 < (x.1.size : Int)) (par_bif (par_ret _) (par_ite (c := 0 ≤ x.2.2 ∧ x.2.2 < (x.1.size : Int)) (par_bif (par_ret _) (par_ret _)) par_none)) par_none) (par_ret _))

def impl_KeyOk_d (a0 : ByteArray) (k : Bool → Option Res) : Option Res :=
  loopK impl_KeyOk_b0 Fuel (a0, false, (0 : Int)) (Sum.elim (fun z1 =>
    k z1.2.1) (fun z2 =>
    impl_within_k (z2.1.size : Int) (1 : Int) (3 : Int) (fun y3 =>
      k y3)))

theorem impl_KeyOk_h : ∃ g : ByteArray → (Bool → Option Res) → Option Res, g = impl_KeyOk_d := ⟨_, rfl⟩
def impl_KeyOk_k : ByteArray → (Bool → Option Res) → Option Res := Classical.choose impl_KeyOk_h
theorem impl_KeyOk_e : impl_KeyOk_k = impl_KeyOk_d := Classical.choose_spec impl_KeyOk_h

theorem impl_KeyOk_p (a0 : ByteArray) : Par (impl_KeyOk_k a0) := by
  rw [impl_KeyOk_e]
  unfold impl_KeyOk_d
  exact ((par_loop impl_KeyOk_bp0 Fuel (a0, false, (0 : Int))).bind2 (fun z1 => (par_ret _)) (fun z2 => ((impl_within_p (z2.1.size : Int) (1 : Int) (3 : Int)).bind fun y3 => (par_ret _))))

def impl_RangeOk_d (a0 : dRange) (k : Bool → Option Res) : Option Res :=
  impl_KeyOk_k a0.1 (fun y1 =>
    bif y1 then
      impl_KeyOk_k a0.2 (fun y2 =>
        bif y2 then
          k ((strLess a0.1 a0.2) || (strEq a0.1 a0.2))
        else
          k false)
    else
      k false)

theorem impl_RangeOk_h : ∃ g : dRange → (Bool → Option Res) → Option Res, g = impl_RangeOk_d := ⟨_, rfl⟩
def impl_RangeOk_k : dRange → (Bool → Option Res) → Option Res := Classical.choose impl_RangeOk_h
theorem impl_RangeOk_e : impl_RangeOk_k = impl_RangeOk_d := Classical.choose_spec impl_RangeOk_h

theorem impl_RangeOk_p (a0 : dRange) : Par (impl_RangeOk_k a0) := by
  rw [impl_RangeOk_e]
  unfold impl_RangeOk_d
  exact ((impl_KeyOk_p a0.1).bind fun y1 => (par_bif ((impl_KeyOk_p a0.2).bind fun y2 => (par_bif (par_ret _) (par_ret _))) (par_ret _)))

def impl_WriteOk_d (a0 : dWrite) (k : Bool → Option Res) : Option Res :=
  impl_KeyOk_k a0.1 (fun y1 =>
    bif y1 then
      bif (decide ((a0.2.1.size : Int) ≤ (12 : Int))) then
        bif (!a0.2.2) then
          k true
        else
          k (strEq a0.2.1 (⟨#[]⟩ : ByteArray))
      else
        k false
    else
      k false)

theorem impl_WriteOk_h : ∃ g : dWrite → (Bool → Option Res) → Option Res, g = impl_WriteOk_d := ⟨_, rfl⟩
def impl_WriteOk_k : dWrite → (Bool → Option Res) → Option Res := Classical.choose impl_WriteOk_h
theorem impl_WriteOk_e : impl_WriteOk_k = impl_WriteOk_d := Classical.choose_spec impl_WriteOk_h

theorem impl_WriteOk_p (a0 : dWrite) : Par (impl_WriteOk_k a0) := by
  rw [impl_WriteOk_e]
  unfold impl_WriteOk_d
  exact ((impl_KeyOk_p a0.1).bind fun y1 => (par_bif (par_bif (par_bif (par_ret _) (par_ret _)) (par_ret _)) (par_ret _)))

def impl_WritesOk_b0 (x : ((List dWrite) × Bool × (List dWrite) × Int × Int)) (k : ((List dWrite) × Bool × (List dWrite) × Int × Int) ⊕ (((List dWrite) × Bool × (List dWrite) × Int × Int) ⊕ ((List dWrite) × Bool × (List dWrite) × Int × Int)) → Option Res) : Option Res :=
    bif (decide (x.2.2.2.2 < x.2.2.2.1)) then
      if 0 ≤ x.2.2.2.2 ∧ x.2.2.2.2 < (x.2.2.1.length : Int) then
        impl_WriteOk_k (rd (Ty.zero tWrite) x.2.2.1 x.2.2.2.2) (fun y3 =>
          bif (!y3) then
            k (.inr (.inl (x.1, false, x.2.2.1, x.2.2.2.1, x.2.2.2.2)))
          else
            bif (decide (x.2.2.2.2 > (0 : Int))) then
              if 0 ≤ (IntKind.wrap .i64 (x.2.2.2.2 - (1 : Int))) ∧ (IntKind.wrap .i64 (x.2.2.2.2 - (1 : Int))) < (x.1.length : Int) then
                bif (!(strLess ((rd (Ty.zero tWrite) x.1 (IntKind.wrap .i64 (x.2.2.2.2 - (1 : Int)))).1) ((rd (Ty.zero tWrite) x.2.2.1 x.2.2.2.2).1))) then
                  k (.inr (.inl (x.1, false, x.2.2.1, x.2.2.2.1, x.2.2.2.2)))
                else
                  k (.inl (x.1, x.2.1, x.2.2.1, x.2.2.2.1, (IntKind.wrap .i64 (x.2.2.2.2 + (1 : Int)))))
              else none
            else
              k (.inl (x.1, x.2.1, x.2.2.1, x.2.2.2.1, (IntKind.wrap .i64 (x.2.2.2.2 + (1 : Int))))))
      else none
    else
      k (.inr (.inr (x.1, x.2.1, x.2.2.1, x.2.2.2.1, x.2.2.2.2)))

theorem impl_WritesOk_bp0 (x : ((List dWrite) × Bool × (List dWrite) × Int × Int)) : Par (impl_WritesOk_b0 x) := by
  unfold impl_WritesOk_b0
  exact (par_bif (par_ite (c := 0 ≤ x.2.2.2.2 ∧ x.2.2.2.2 < (x.2.2.1.length : Int)) ((impl_WriteOk_p (rd (Ty.zero tWrite) x.2.2.1 x.2.2.2.2)).bind fun y3 => (par_bif (par_ret _) (par_bif (par_ite (c := 0 ≤ (IntKind.wrap .i64 (x.2.2.2.2 - (1 : Int))) ∧ (IntKind.wrap .i64 (x.2.2.2.2 - (1 : Int))) < (x.1.length : Int)) (par_bif (par_ret _) (par_ret _)) par_none) (par_ret _)))) par_none) (par_ret _))

def impl_WritesOk_d (a0 : (List dWrite)) (k : Bool → Option Res) : Option Res :=
  loopK impl_WritesOk_b0 Fuel (a0, false, a0, (a0.length : Int), (0 : Int)) (Sum.elim (fun z1 =>
    k z1.2.1) (fun z2 =>
    k (decide ((z2.1.length : Int) ≤ (8 : Int)))))

theorem impl_WritesOk_h : ∃ g : (List dWrite) → (Bool → Option Res) → Option Res, g = impl_WritesOk_d := ⟨_, rfl⟩
def impl_WritesOk_k : (List dWrite) → (Bool → Option Res) → Option Res := Classical.choose impl_WritesOk_h
theorem impl_WritesOk_e : impl_WritesOk_k = impl_WritesOk_d := Classical.choose_spec impl_WritesOk_h

theorem impl_WritesOk_p (a0 : (List dWrite)) : Par (impl_WritesOk_k a0) := by
  rw [impl_WritesOk_e]
  unfold impl_WritesOk_d
  exact ((par_loop impl_WritesOk_bp0 Fuel (a0, false, a0, (a0.length : Int), (0 : Int))).bind2 (fun z1 => (par_ret _)) (fun z2 => (par_ret _)))

def impl_TxnOk_j5000011 (x : (Bool × Int × Int × Int × Int × (List dRange) × (List dWrite) × Bool × ByteArray)) (k : (Bool × Int × Int × Int × Int × (List dRange) × (List dWrite) × Bool × ByteArray) → Option Res) : Option Res :=
    bif (x.2.2.1 == (2 : Int)) then
      impl_KeyOk_k x.2.2.2.2.2.2.2.2 (fun y15 =>
        bif y15 then
          k (true, x.2.1, x.2.2.1, x.2.2.2.1, x.2.2.2.2.1, x.2.2.2.2.2.1, x.2.2.2.2.2.2.1, x.2.2.2.2.2.2.2.1, x.2.2.2.2.2.2.2.2)
        else
          bif (x.2.2.1 != (2 : Int)) then
            k ((strEq x.2.2.2.2.2.2.2.2 (⟨#[]⟩ : ByteArray)), x.2.1, x.2.2.1, x.2.2.2.1, x.2.2.2.2.1, x.2.2.2.2.2.1, x.2.2.2.2.2.2.1, x.2.2.2.2.2.2.2.1, x.2.2.2.2.2.2.2.2)
          else
            k (false, x.2.1, x.2.2.1, x.2.2.2.1, x.2.2.2.2.1, x.2.2.2.2.2.1, x.2.2.2.2.2.2.1, x.2.2.2.2.2.2.2.1, x.2.2.2.2.2.2.2.2))
    else
      bif (x.2.2.1 != (2 : Int)) then
        k ((strEq x.2.2.2.2.2.2.2.2 (⟨#[]⟩ : ByteArray)), x.2.1, x.2.2.1, x.2.2.2.1, x.2.2.2.2.1, x.2.2.2.2.2.1, x.2.2.2.2.2.2.1, x.2.2.2.2.2.2.2.1, x.2.2.2.2.2.2.2.2)
      else
        k (false, x.2.1, x.2.2.1, x.2.2.2.1, x.2.2.2.2.1, x.2.2.2.2.2.1, x.2.2.2.2.2.2.1, x.2.2.2.2.2.2.2.1, x.2.2.2.2.2.2.2.2)

theorem impl_TxnOk_jp5000011 (x : (Bool × Int × Int × Int × Int × (List dRange) × (List dWrite) × Bool × ByteArray)) : Par (impl_TxnOk_j5000011 x) := by
  unfold impl_TxnOk_j5000011
  exact (par_bif ((impl_KeyOk_p x.2.2.2.2.2.2.2.2).bind fun y15 => (par_bif (par_ret _) (par_bif (par_ret _) (par_ret _)))) (par_bif (par_ret _) (par_ret _)))

def impl_TxnOk_j5000009 (x : (Bool × Int × Int × Int × Int × (List dRange) × (List dWrite) × Bool × ByteArray)) (k : (Bool × Int × Int × Int × Int × (List dRange) × (List dWrite) × Bool × ByteArray) → Option Res) : Option Res :=
    bif (x.2.2.1 == (3 : Int)) then
      impl_within_k x.2.2.2.2.1 (IntKind.wrap .i64 (x.2.2.2.1 + (1 : Int))) (9999 : Int) (fun y10 =>
        bif (!y10) then
          k (false, x.2.1, x.2.2.1, x.2.2.2.1, x.2.2.2.2.1, x.2.2.2.2.2.1, x.2.2.2.2.2.2.1, x.2.2.2.2.2.2.2.1, x.2.2.2.2.2.2.2.2)
        else
          bif (x.2.2.1 != (3 : Int)) then
            bif (x.2.2.2.2.1 != (0 : Int)) then
              k (false, x.2.1, x.2.2.1, x.2.2.2.1, x.2.2.2.2.1, x.2.2.2.2.2.1, x.2.2.2.2.2.2.1, x.2.2.2.2.2.2.2.1, x.2.2.2.2.2.2.2.2)
            else
              impl_TxnOk_j5000011 (x.1, x.2.1, x.2.2.1, x.2.2.2.1, x.2.2.2.2.1, x.2.2.2.2.2.1, x.2.2.2.2.2.2.1, x.2.2.2.2.2.2.2.1, x.2.2.2.2.2.2.2.2) (fun z11 =>
                k (z11.1, z11.2.1, z11.2.2.1, z11.2.2.2.1, z11.2.2.2.2.1, z11.2.2.2.2.2.1, z11.2.2.2.2.2.2.1, z11.2.2.2.2.2.2.2.1, z11.2.2.2.2.2.2.2.2))
          else
            impl_TxnOk_j5000011 (x.1, x.2.1, x.2.2.1, x.2.2.2.1, x.2.2.2.2.1, x.2.2.2.2.2.1, x.2.2.2.2.2.2.1, x.2.2.2.2.2.2.2.1, x.2.2.2.2.2.2.2.2) (fun z12 =>
              k (z12.1, z12.2.1, z12.2.2.1, z12.2.2.2.1, z12.2.2.2.2.1, z12.2.2.2.2.2.1, z12.2.2.2.2.2.2.1, z12.2.2.2.2.2.2.2.1, z12.2.2.2.2.2.2.2.2)))
    else
      bif (x.2.2.1 != (3 : Int)) then
        bif (x.2.2.2.2.1 != (0 : Int)) then
          k (false, x.2.1, x.2.2.1, x.2.2.2.1, x.2.2.2.2.1, x.2.2.2.2.2.1, x.2.2.2.2.2.2.1, x.2.2.2.2.2.2.2.1, x.2.2.2.2.2.2.2.2)
        else
          impl_TxnOk_j5000011 (x.1, x.2.1, x.2.2.1, x.2.2.2.1, x.2.2.2.2.1, x.2.2.2.2.2.1, x.2.2.2.2.2.2.1, x.2.2.2.2.2.2.2.1, x.2.2.2.2.2.2.2.2) (fun z13 =>
            k (z13.1, z13.2.1, z13.2.2.1, z13.2.2.2.1, z13.2.2.2.2.1, z13.2.2.2.2.2.1, z13.2.2.2.2.2.2.1, z13.2.2.2.2.2.2.2.1, z13.2.2.2.2.2.2.2.2))
      else
        impl_TxnOk_j5000011 (x.1, x.2.1, x.2.2.1, x.2.2.2.1, x.2.2.2.2.1, x.2.2.2.2.2.1, x.2.2.2.2.2.2.1, x.2.2.2.2.2.2.2.1, x.2.2.2.2.2.2.2.2) (fun z14 =>
          k (z14.1, z14.2.1, z14.2.2.1, z14.2.2.2.1, z14.2.2.2.2.1, z14.2.2.2.2.2.1, z14.2.2.2.2.2.2.1, z14.2.2.2.2.2.2.2.1, z14.2.2.2.2.2.2.2.2))

theorem impl_TxnOk_jp5000009 (x : (Bool × Int × Int × Int × Int × (List dRange) × (List dWrite) × Bool × ByteArray)) : Par (impl_TxnOk_j5000009 x) := by
  unfold impl_TxnOk_j5000009
  exact (par_bif ((impl_within_p x.2.2.2.2.1 (IntKind.wrap .i64 (x.2.2.2.1 + (1 : Int))) (9999 : Int)).bind fun y10 => (par_bif (par_ret _) (par_bif (par_bif (par_ret _) ((impl_TxnOk_jp5000011 (x.1, x.2.1, x.2.2.1, x.2.2.2.1, x.2.2.2.2.1, x.2.2.2.2.2.1, x.2.2.2.2.2.2.1, x.2.2.2.2.2.2.2.1, x.2.2.2.2.2.2.2.2)).bind fun z11 => (par_ret _))) ((impl_TxnOk_jp5000011 (x.1, x.2.1, x.2.2.1, x.2.2.2.1, x.2.2.2.2.1, x.2.2.2.2.2.1, x.2.2.2.2.2.2.1, x.2.2.2.2.2.2.2.1, x.2.2.2.2.2.2.2.2)).bind fun z12 => (par_ret _))))) (par_bif (par_bif (par_ret _) ((impl_TxnOk_jp5000011 (x.1, x.2.1, x.2.2.1, x.2.2.2.1, x.2.2.2.2.1, x.2.2.2.2.2.1, x.2.2.2.2.2.2.1, x.2.2.2.2.2.2.2.1, x.2.2.2.2.2.2.2.2)).bind fun z13 => (par_ret _))) ((impl_TxnOk_jp5000011 (x.1, x.2.1, x.2.2.1, x.2.2.2.1, x.2.2.2.2.1, x.2.2.2.2.2.1, x.2.2.2.2.2.2.1, x.2.2.2.2.2.2.2.1, x.2.2.2.2.2.2.2.2)).bind fun z14 => (par_ret _))))

def impl_TxnOk_b0 (x : (Bool × (List dRange) × Int × Int × Int × Int × Int × Int × (List dRange) × (List dWrite) × Bool × ByteArray)) (k : (Bool × (List dRange) × Int × Int × Int × Int × Int × Int × (List dRange) × (List dWrite) × Bool × ByteArray) ⊕ ((Bool × (List dRange) × Int × Int × Int × Int × Int × Int × (List dRange) × (List dWrite) × Bool × ByteArray) ⊕ (Bool × (List dRange) × Int × Int × Int × Int × Int × Int × (List dRange) × (List dWrite) × Bool × ByteArray)) → Option Res) : Option Res :=
    bif (decide (x.2.2.2.1 < x.2.2.1)) then
      if 0 ≤ x.2.2.2.1 ∧ x.2.2.2.1 < (x.2.1.length : Int) then
        impl_RangeOk_k (rd (Ty.zero tRange) x.2.1 x.2.2.2.1) (fun y9 =>
          bif (!y9) then
            k (.inr (.inl (false, x.2.1, x.2.2.1, x.2.2.2.1, x.2.2.2.2.1, x.2.2.2.2.2.1, x.2.2.2.2.2.2.1, x.2.2.2.2.2.2.2.1, x.2.2.2.2.2.2.2.2.1, x.2.2.2.2.2.2.2.2.2.1, x.2.2.2.2.2.2.2.2.2.2.1, x.2.2.2.2.2.2.2.2.2.2.2)))
          else
            k (.inl (x.1, x.2.1, x.2.2.1, (IntKind.wrap .i64 (x.2.2.2.1 + (1 : Int))), x.2.2.2.2.1, x.2.2.2.2.2.1, x.2.2.2.2.2.2.1, x.2.2.2.2.2.2.2.1, x.2.2.2.2.2.2.2.2.1, x.2.2.2.2.2.2.2.2.2.1, x.2.2.2.2.2.2.2.2.2.2.1, x.2.2.2.2.2.2.2.2.2.2.2)))
      else none
    else
      k (.inr (.inr (x.1, x.2.1, x.2.2.1, x.2.2.2.1, x.2.2.2.2.1, x.2.2.2.2.2.1, x.2.2.2.2.2.2.1, x.2.2.2.2.2.2.2.1, x.2.2.2.2.2.2.2.2.1, x.2.2.2.2.2.2.2.2.2.1, x.2.2.2.2.2.2.2.2.2.2.1, x.2.2.2.2.2.2.2.2.2.2.2)))

theorem impl_TxnOk_bp0 (x : (Bool × (List dRange) × Int × Int × Int × Int × Int × Int × (List dRange) × (List dWrite) × Bool × ByteArray)) : Par (impl_TxnOk_b0 x) := by
  unfold impl_TxnOk_b0
  exact (par_bif (par_ite (c := 0 ≤ x.2.2.2.1 ∧ x.2.2.2.1 < (x.2.1.length : Int)) ((impl_RangeOk_p (rd (Ty.zero tRange) x.2.1 x.2.2.2.1)).bind fun y9 => (par_bif (par_ret _) (par_ret _))) par_none) (par_ret _))

def impl_TxnOk_d (a0 : dTxn) (k : Bool → Option Res) : Option Res :=
  loopK impl_TxnOk_b0 Fuel (false, a0.2.2.2.2.1, (a0.2.2.2.2.1.length : Int), (0 : Int), a0.1, a0.2.1, a0.2.2.1, a0.2.2.2.1, a0.2.2.2.2.1, a0.2.2.2.2.2.1, a0.2.2.2.2.2.2.1, a0.2.2.2.2.2.2.2) (Sum.elim (fun z1 =>
    k z1.1) (fun z2 =>
    impl_within_k z2.2.2.2.2.1 (1 : Int) (9999 : Int) (fun y3 =>
      bif (!y3) then
        k false
      else
        impl_within_k z2.2.2.2.2.2.1 (1 : Int) (3 : Int) (fun y4 =>
          bif (!y4) then
            k false
          else
            impl_within_k z2.2.2.2.2.2.2.1 (0 : Int) (9999 : Int) (fun y5 =>
              bif (!y5) then
                k false
              else
                bif (decide ((z2.2.2.2.2.2.2.2.2.1.length : Int) > (8 : Int))) then
                  k false
                else
                  impl_WritesOk_k z2.2.2.2.2.2.2.2.2.2.1 (fun y6 =>
                    bif (!y6) then
                      k false
                    else
                      bif z2.2.2.2.2.2.2.2.2.2.2.1 then
                        bif (z2.2.2.2.2.2.1 == (1 : Int)) then
                          k false
                        else
                          impl_TxnOk_j5000009 (z2.1, z2.2.2.2.2.1, z2.2.2.2.2.2.1, z2.2.2.2.2.2.2.1, z2.2.2.2.2.2.2.2.1, z2.2.2.2.2.2.2.2.2.1, z2.2.2.2.2.2.2.2.2.2.1, z2.2.2.2.2.2.2.2.2.2.2.1, z2.2.2.2.2.2.2.2.2.2.2.2) (fun z7 =>
                            k z7.1)
                      else
                        impl_TxnOk_j5000009 (z2.1, z2.2.2.2.2.1, z2.2.2.2.2.2.1, z2.2.2.2.2.2.2.1, z2.2.2.2.2.2.2.2.1, z2.2.2.2.2.2.2.2.2.1, z2.2.2.2.2.2.2.2.2.2.1, z2.2.2.2.2.2.2.2.2.2.2.1, z2.2.2.2.2.2.2.2.2.2.2.2) (fun z8 =>
                          k z8.1)))))))

theorem impl_TxnOk_h : ∃ g : dTxn → (Bool → Option Res) → Option Res, g = impl_TxnOk_d := ⟨_, rfl⟩
def impl_TxnOk_k : dTxn → (Bool → Option Res) → Option Res := Classical.choose impl_TxnOk_h
theorem impl_TxnOk_e : impl_TxnOk_k = impl_TxnOk_d := Classical.choose_spec impl_TxnOk_h

theorem impl_TxnOk_p (a0 : dTxn) : Par (impl_TxnOk_k a0) := by
  rw [impl_TxnOk_e]
  unfold impl_TxnOk_d
  exact ((par_loop impl_TxnOk_bp0 Fuel (false, a0.2.2.2.2.1, (a0.2.2.2.2.1.length : Int), (0 : Int), a0.1, a0.2.1, a0.2.2.1, a0.2.2.2.1, a0.2.2.2.2.1, a0.2.2.2.2.2.1, a0.2.2.2.2.2.2.1, a0.2.2.2.2.2.2.2)).bind2 (fun z1 => (par_ret _)) (fun z2 => ((impl_within_p z2.2.2.2.2.1 (1 : Int) (9999 : Int)).bind fun y3 => (par_bif (par_ret _) ((impl_within_p z2.2.2.2.2.2.1 (1 : Int) (3 : Int)).bind fun y4 => (par_bif (par_ret _) ((impl_within_p z2.2.2.2.2.2.2.1 (0 : Int) (9999 : Int)).bind fun y5 => (par_bif (par_ret _) (par_bif (par_ret _) ((impl_WritesOk_p z2.2.2.2.2.2.2.2.2.2.1).bind fun y6 => (par_bif (par_ret _) (par_bif (par_bif (par_ret _) ((impl_TxnOk_jp5000009 (z2.1, z2.2.2.2.2.1, z2.2.2.2.2.2.1, z2.2.2.2.2.2.2.1, z2.2.2.2.2.2.2.2.1, z2.2.2.2.2.2.2.2.2.1, z2.2.2.2.2.2.2.2.2.2.1, z2.2.2.2.2.2.2.2.2.2.2.1, z2.2.2.2.2.2.2.2.2.2.2.2)).bind fun z7 => (par_ret _))) ((impl_TxnOk_jp5000009 (z2.1, z2.2.2.2.2.1, z2.2.2.2.2.2.1, z2.2.2.2.2.2.2.1, z2.2.2.2.2.2.2.2.1, z2.2.2.2.2.2.2.2.2.1, z2.2.2.2.2.2.2.2.2.2.1, z2.2.2.2.2.2.2.2.2.2.2.1, z2.2.2.2.2.2.2.2.2.2.2.2)).bind fun z8 => (par_ret _))))))))))))))

def impl_reader_txn_d (a0 : ByteArray) (a1 : Int) (a2 : Bool) (k : (Int × Int × Int × Int × Bool × ByteArray × ByteArray × Int × Bool × (List dRange) × (List dWrite)) → Option Res) : Option Res :=
  impl_reader_num_k a0 a1 a2 (fun y1 =>
    impl_reader_num_k y1.2.1 y1.2.2.1 y1.2.2.2 (fun y2 =>
      impl_reader_num_k y2.2.1 y2.2.2.1 y2.2.2.2 (fun y3 =>
        impl_reader_num_k y3.2.1 y3.2.2.1 y3.2.2.2 (fun y4 =>
          impl_reader_each_reader_txn_1_k y4.2.1 y4.2.2.1 y4.2.2.2 y1.1 y2.1 y3.1 y4.1 false (⟨#[]⟩ : ByteArray) (fun y5 =>
            impl_reader_each_reader_txn_2_k y5.1 y5.2.1 y5.2.2.1 y5.2.2.2.1 y5.2.2.2.2.1 y5.2.2.2.2.2.1 y5.2.2.2.2.2.2.1 y5.2.2.2.2.2.2.2.1 y5.2.2.2.2.2.2.2.2.1 y5.2.2.2.2.2.2.2.2.2 (fun y6 =>
              impl_reader_flag_k y6.1 y6.2.1 y6.2.2.1 (fun y7 =>
                impl_reader_text_k y7.2.1 y7.2.2.1 y7.2.2.2 (fun y8 =>
                  bif y8.2.2.2 then
                    k (y6.2.2.2.1, y6.2.2.2.2.1, y6.2.2.2.2.2.1, y6.2.2.2.2.2.2.1, y7.1, y8.1, y8.2.1, y8.2.2.1, true, y6.2.2.2.2.2.2.2.2.2.1, y6.2.2.2.2.2.2.2.2.2.2)
                  else
                    impl_TxnOk_k (y6.2.2.2.1, (y6.2.2.2.2.1, (y6.2.2.2.2.2.1, (y6.2.2.2.2.2.2.1, (y6.2.2.2.2.2.2.2.2.2.1, (y6.2.2.2.2.2.2.2.2.2.2, (y7.1, y8.1))))))) (fun y9 =>
                      k (y6.2.2.2.1, y6.2.2.2.2.1, y6.2.2.2.2.2.1, y6.2.2.2.2.2.2.1, y7.1, y8.1, y8.2.1, y8.2.2.1, (!y9), y6.2.2.2.2.2.2.2.2.2.1, y6.2.2.2.2.2.2.2.2.2.2))))))))))

theorem impl_reader_txn_h : ∃ g : ByteArray → Int → Bool → ((Int × Int × Int × Int × Bool × ByteArray × ByteArray × Int × Bool × (List dRange) × (List dWrite)) → Option Res) → Option Res, g = impl_reader_txn_d := ⟨_, rfl⟩
def impl_reader_txn_k : ByteArray → Int → Bool → ((Int × Int × Int × Int × Bool × ByteArray × ByteArray × Int × Bool × (List dRange) × (List dWrite)) → Option Res) → Option Res := Classical.choose impl_reader_txn_h
theorem impl_reader_txn_e : impl_reader_txn_k = impl_reader_txn_d := Classical.choose_spec impl_reader_txn_h

theorem impl_reader_txn_p (a0 : ByteArray) (a1 : Int) (a2 : Bool) : Par (impl_reader_txn_k a0 a1 a2) := by
  rw [impl_reader_txn_e]
  unfold impl_reader_txn_d
  exact ((impl_reader_num_p a0 a1 a2).bind fun y1 => ((impl_reader_num_p y1.2.1 y1.2.2.1 y1.2.2.2).bind fun y2 => ((impl_reader_num_p y2.2.1 y2.2.2.1 y2.2.2.2).bind fun y3 => ((impl_reader_num_p y3.2.1 y3.2.2.1 y3.2.2.2).bind fun y4 => ((impl_reader_each_reader_txn_1_p y4.2.1 y4.2.2.1 y4.2.2.2 y1.1 y2.1 y3.1 y4.1 false (⟨#[]⟩ : ByteArray)).bind fun y5 => ((impl_reader_each_reader_txn_2_p y5.1 y5.2.1 y5.2.2.1 y5.2.2.2.1 y5.2.2.2.2.1 y5.2.2.2.2.2.1 y5.2.2.2.2.2.2.1 y5.2.2.2.2.2.2.2.1 y5.2.2.2.2.2.2.2.2.1 y5.2.2.2.2.2.2.2.2.2).bind fun y6 => ((impl_reader_flag_p y6.1 y6.2.1 y6.2.2.1).bind fun y7 => ((impl_reader_text_p y7.2.1 y7.2.2.1 y7.2.2.2).bind fun y8 => (par_bif (par_ret _) ((impl_TxnOk_p (y6.2.2.2.1, (y6.2.2.2.2.1, (y6.2.2.2.2.2.1, (y6.2.2.2.2.2.2.1, (y6.2.2.2.2.2.2.2.2.2.1, (y6.2.2.2.2.2.2.2.2.2.2, (y7.1, y8.1)))))))).bind fun y9 => (par_ret _)))))))))))

def impl_ReadTxn_d (a0 : ByteArray) (a1 : Int) (k : (Int × Int × Int × Int × Bool × ByteArray × Int × Bool × (List dRange) × (List dWrite)) → Option Res) : Option Res :=
  impl_reader_txn_k a0 a1 false (fun y1 =>
    bif y1.2.2.2.2.2.2.2.2.1 then
      k ((0 : Int), (0 : Int), (0 : Int), (0 : Int), false, (⟨#[]⟩ : ByteArray), (0 : Int), false, ([] : List dRange), ([] : List dWrite))
    else
      k (y1.1, y1.2.1, y1.2.2.1, y1.2.2.2.1, y1.2.2.2.2.1, y1.2.2.2.2.2.1, y1.2.2.2.2.2.2.2.1, true, y1.2.2.2.2.2.2.2.2.2.1, y1.2.2.2.2.2.2.2.2.2.2))

theorem impl_ReadTxn_h : ∃ g : ByteArray → Int → ((Int × Int × Int × Int × Bool × ByteArray × Int × Bool × (List dRange) × (List dWrite)) → Option Res) → Option Res, g = impl_ReadTxn_d := ⟨_, rfl⟩
def impl_ReadTxn_k : ByteArray → Int → ((Int × Int × Int × Int × Bool × ByteArray × Int × Bool × (List dRange) × (List dWrite)) → Option Res) → Option Res := Classical.choose impl_ReadTxn_h
theorem impl_ReadTxn_e : impl_ReadTxn_k = impl_ReadTxn_d := Classical.choose_spec impl_ReadTxn_h

theorem impl_ReadTxn_p (a0 : ByteArray) (a1 : Int) : Par (impl_ReadTxn_k a0 a1) := by
  rw [impl_ReadTxn_e]
  unfold impl_ReadTxn_d
  exact ((impl_reader_txn_p a0 a1 false).bind fun y1 => (par_bif (par_ret _) (par_ret _)))

def laws_eqRange_d (a0 : dRange) (a1 : dRange) (k : Bool → Option Res) : Option Res :=
  bif (!(strEq a0.1 a1.1)) then
    k false
  else
    bif (!(strEq a0.2 a1.2)) then
      k false
    else
      k true

theorem laws_eqRange_h : ∃ g : dRange → dRange → (Bool → Option Res) → Option Res, g = laws_eqRange_d := ⟨_, rfl⟩
def laws_eqRange_k : dRange → dRange → (Bool → Option Res) → Option Res := Classical.choose laws_eqRange_h
theorem laws_eqRange_e : laws_eqRange_k = laws_eqRange_d := Classical.choose_spec laws_eqRange_h

theorem laws_eqRange_p (a0 : dRange) (a1 : dRange) : Par (laws_eqRange_k a0 a1) := by
  rw [laws_eqRange_e]
  unfold laws_eqRange_d
  exact (par_bif (par_ret _) (par_bif (par_ret _) (par_ret _)))

def laws_eqRangeS_b0 (x : ((List dRange) × (List dRange) × Bool × Int)) (k : ((List dRange) × (List dRange) × Bool × Int) ⊕ (((List dRange) × (List dRange) × Bool × Int) ⊕ ((List dRange) × (List dRange) × Bool × Int)) → Option Res) : Option Res :=
    bif (decide (x.2.2.2 < (x.1.length : Int))) then
      if 0 ≤ x.2.2.2 ∧ x.2.2.2 < (x.1.length : Int) then
        if 0 ≤ x.2.2.2 ∧ x.2.2.2 < (x.2.1.length : Int) then
          laws_eqRange_k (rd (Ty.zero tRange) x.1 x.2.2.2) (rd (Ty.zero tRange) x.2.1 x.2.2.2) (fun y3 =>
            bif (!y3) then
              k (.inr (.inl (x.1, x.2.1, false, x.2.2.2)))
            else
              k (.inl (x.1, x.2.1, x.2.2.1, (IntKind.wrap .i64 (x.2.2.2 + (1 : Int))))))
        else none
      else none
    else
      k (.inr (.inr (x.1, x.2.1, x.2.2.1, x.2.2.2)))

theorem laws_eqRangeS_bp0 (x : ((List dRange) × (List dRange) × Bool × Int)) : Par (laws_eqRangeS_b0 x) := by
  unfold laws_eqRangeS_b0
  exact (par_bif (par_ite (c := 0 ≤ x.2.2.2 ∧ x.2.2.2 < (x.1.length : Int)) (par_ite (c := 0 ≤ x.2.2.2 ∧ x.2.2.2 < (x.2.1.length : Int)) ((laws_eqRange_p (rd (Ty.zero tRange) x.1 x.2.2.2) (rd (Ty.zero tRange) x.2.1 x.2.2.2)).bind fun y3 => (par_bif (par_ret _) (par_ret _))) par_none) par_none) (par_ret _))

def laws_eqRangeS_d (a0 : (List dRange)) (a1 : (List dRange)) (k : Bool → Option Res) : Option Res :=
  bif ((a0.length : Int) != (a1.length : Int)) then
    k false
  else
    loopK laws_eqRangeS_b0 Fuel (a0, a1, false, (0 : Int)) (Sum.elim (fun z1 =>
      k z1.2.2.1) (fun _ =>
      k true))

theorem laws_eqRangeS_h : ∃ g : (List dRange) → (List dRange) → (Bool → Option Res) → Option Res, g = laws_eqRangeS_d := ⟨_, rfl⟩
def laws_eqRangeS_k : (List dRange) → (List dRange) → (Bool → Option Res) → Option Res := Classical.choose laws_eqRangeS_h
theorem laws_eqRangeS_e : laws_eqRangeS_k = laws_eqRangeS_d := Classical.choose_spec laws_eqRangeS_h

theorem laws_eqRangeS_p (a0 : (List dRange)) (a1 : (List dRange)) : Par (laws_eqRangeS_k a0 a1) := by
  rw [laws_eqRangeS_e]
  unfold laws_eqRangeS_d
  exact (par_bif (par_ret _) ((par_loop laws_eqRangeS_bp0 Fuel (a0, a1, false, (0 : Int))).bind2 (fun z1 => (par_ret _)) (fun z2 => (par_ret _))))

def laws_eqWrite_d (a0 : dWrite) (a1 : dWrite) (k : Bool → Option Res) : Option Res :=
  bif (!(strEq a0.1 a1.1)) then
    k false
  else
    bif (!(strEq a0.2.1 a1.2.1)) then
      k false
    else
      bif (!(a0.2.2 == a1.2.2)) then
        k false
      else
        k true

theorem laws_eqWrite_h : ∃ g : dWrite → dWrite → (Bool → Option Res) → Option Res, g = laws_eqWrite_d := ⟨_, rfl⟩
def laws_eqWrite_k : dWrite → dWrite → (Bool → Option Res) → Option Res := Classical.choose laws_eqWrite_h
theorem laws_eqWrite_e : laws_eqWrite_k = laws_eqWrite_d := Classical.choose_spec laws_eqWrite_h

theorem laws_eqWrite_p (a0 : dWrite) (a1 : dWrite) : Par (laws_eqWrite_k a0 a1) := by
  rw [laws_eqWrite_e]
  unfold laws_eqWrite_d
  exact (par_bif (par_ret _) (par_bif (par_ret _) (par_bif (par_ret _) (par_ret _))))

def laws_eqWriteS_b0 (x : ((List dWrite) × (List dWrite) × Bool × Int)) (k : ((List dWrite) × (List dWrite) × Bool × Int) ⊕ (((List dWrite) × (List dWrite) × Bool × Int) ⊕ ((List dWrite) × (List dWrite) × Bool × Int)) → Option Res) : Option Res :=
    bif (decide (x.2.2.2 < (x.1.length : Int))) then
      if 0 ≤ x.2.2.2 ∧ x.2.2.2 < (x.1.length : Int) then
        if 0 ≤ x.2.2.2 ∧ x.2.2.2 < (x.2.1.length : Int) then
          laws_eqWrite_k (rd (Ty.zero tWrite) x.1 x.2.2.2) (rd (Ty.zero tWrite) x.2.1 x.2.2.2) (fun y3 =>
            bif (!y3) then
              k (.inr (.inl (x.1, x.2.1, false, x.2.2.2)))
            else
              k (.inl (x.1, x.2.1, x.2.2.1, (IntKind.wrap .i64 (x.2.2.2 + (1 : Int))))))
        else none
      else none
    else
      k (.inr (.inr (x.1, x.2.1, x.2.2.1, x.2.2.2)))

theorem laws_eqWriteS_bp0 (x : ((List dWrite) × (List dWrite) × Bool × Int)) : Par (laws_eqWriteS_b0 x) := by
  unfold laws_eqWriteS_b0
  exact (par_bif (par_ite (c := 0 ≤ x.2.2.2 ∧ x.2.2.2 < (x.1.length : Int)) (par_ite (c := 0 ≤ x.2.2.2 ∧ x.2.2.2 < (x.2.1.length : Int)) ((laws_eqWrite_p (rd (Ty.zero tWrite) x.1 x.2.2.2) (rd (Ty.zero tWrite) x.2.1 x.2.2.2)).bind fun y3 => (par_bif (par_ret _) (par_ret _))) par_none) par_none) (par_ret _))

def laws_eqWriteS_d (a0 : (List dWrite)) (a1 : (List dWrite)) (k : Bool → Option Res) : Option Res :=
  bif ((a0.length : Int) != (a1.length : Int)) then
    k false
  else
    loopK laws_eqWriteS_b0 Fuel (a0, a1, false, (0 : Int)) (Sum.elim (fun z1 =>
      k z1.2.2.1) (fun _ =>
      k true))

theorem laws_eqWriteS_h : ∃ g : (List dWrite) → (List dWrite) → (Bool → Option Res) → Option Res, g = laws_eqWriteS_d := ⟨_, rfl⟩
def laws_eqWriteS_k : (List dWrite) → (List dWrite) → (Bool → Option Res) → Option Res := Classical.choose laws_eqWriteS_h
theorem laws_eqWriteS_e : laws_eqWriteS_k = laws_eqWriteS_d := Classical.choose_spec laws_eqWriteS_h

theorem laws_eqWriteS_p (a0 : (List dWrite)) (a1 : (List dWrite)) : Par (laws_eqWriteS_k a0 a1) := by
  rw [laws_eqWriteS_e]
  unfold laws_eqWriteS_d
  exact (par_bif (par_ret _) ((par_loop laws_eqWriteS_bp0 Fuel (a0, a1, false, (0 : Int))).bind2 (fun z1 => (par_ret _)) (fun z2 => (par_ret _))))

def laws_eqTxn_d (a0 : dTxn) (a1 : dTxn) (k : Bool → Option Res) : Option Res :=
  bif (a0.1 != a1.1) then
    k false
  else
    bif (a0.2.1 != a1.2.1) then
      k false
    else
      bif (a0.2.2.1 != a1.2.2.1) then
        k false
      else
        bif (a0.2.2.2.1 != a1.2.2.2.1) then
          k false
        else
          laws_eqRangeS_k a0.2.2.2.2.1 a1.2.2.2.2.1 (fun y1 =>
            bif (!y1) then
              k false
            else
              laws_eqWriteS_k a0.2.2.2.2.2.1 a1.2.2.2.2.2.1 (fun y2 =>
                bif (!y2) then
                  k false
                else
                  bif (!(a0.2.2.2.2.2.2.1 == a1.2.2.2.2.2.2.1)) then
                    k false
                  else
                    bif (!(strEq a0.2.2.2.2.2.2.2 a1.2.2.2.2.2.2.2)) then
                      k false
                    else
                      k true))

theorem laws_eqTxn_h : ∃ g : dTxn → dTxn → (Bool → Option Res) → Option Res, g = laws_eqTxn_d := ⟨_, rfl⟩
def laws_eqTxn_k : dTxn → dTxn → (Bool → Option Res) → Option Res := Classical.choose laws_eqTxn_h
theorem laws_eqTxn_e : laws_eqTxn_k = laws_eqTxn_d := Classical.choose_spec laws_eqTxn_h

theorem laws_eqTxn_p (a0 : dTxn) (a1 : dTxn) : Par (laws_eqTxn_k a0 a1) := by
  rw [laws_eqTxn_e]
  unfold laws_eqTxn_d
  exact (par_bif (par_ret _) (par_bif (par_ret _) (par_bif (par_ret _) (par_bif (par_ret _) ((laws_eqRangeS_p a0.2.2.2.2.1 a1.2.2.2.2.1).bind fun y1 => (par_bif (par_ret _) ((laws_eqWriteS_p a0.2.2.2.2.2.1 a1.2.2.2.2.2.1).bind fun y2 => (par_bif (par_ret _) (par_bif (par_ret _) (par_bif (par_ret _) (par_ret _)))))))))))

def laws_markText_b0 (x : (Int × ByteArray)) (k : (Int × ByteArray) ⊕ (Int × ByteArray) → Option Res) : Option Res :=
    bif (decide (x.1 > (0 : Int))) then
      if (bytesOf [(IntKind.wrap .u8 (IntKind.wrap .i64 ((48 : Int) + (x.1.tmod (10 : Int)))))]).size + x.2.size ≤ 1099511627776 then
        k (.inl ((IntKind.wrap .i64 (x.1.tdiv (10 : Int))), ((bytesOf [(IntKind.wrap .u8 (IntKind.wrap .i64 ((48 : Int) + (x.1.tmod (10 : Int)))))]) ++ x.2)))
      else none
    else
      k (.inr (x.1, x.2))

theorem laws_markText_bp0 (x : (Int × ByteArray)) : Par (laws_markText_b0 x) := by
  unfold laws_markText_b0
  exact (par_bif (par_ite (c := (bytesOf [(IntKind.wrap .u8 (IntKind.wrap .i64 ((48 : Int) + (x.1.tmod (10 : Int)))))]).size + x.2.size ≤ 1099511627776) (par_ret _) par_none) (par_ret _))

def laws_markText_d (a0 : Int) (k : ByteArray → Option Res) : Option Res :=
  bif (decide (a0 ≤ (0 : Int))) then
    k (⟨#[109, 48]⟩ : ByteArray)
  else
    loopK laws_markText_b0 Fuel (a0, (⟨#[]⟩ : ByteArray)) (fun z1 =>
      if (⟨#[109]⟩ : ByteArray).size + z1.2.size ≤ 1099511627776 then
        k ((⟨#[109]⟩ : ByteArray) ++ z1.2)
      else none)

theorem laws_markText_h : ∃ g : Int → (ByteArray → Option Res) → Option Res, g = laws_markText_d := ⟨_, rfl⟩
def laws_markText_k : Int → (ByteArray → Option Res) → Option Res := Classical.choose laws_markText_h
theorem laws_markText_e : laws_markText_k = laws_markText_d := Classical.choose_spec laws_markText_h

theorem laws_markText_p (a0 : Int) : Par (laws_markText_k a0) := by
  rw [laws_markText_e]
  unfold laws_markText_d
  exact (par_bif (par_ret _) ((par_loop laws_markText_bp0 Fuel (a0, (⟨#[]⟩ : ByteArray))).bind fun z1 => (par_ite (c := (⟨#[109]⟩ : ByteArray).size + z1.2.size ≤ 1099511627776) (par_ret _) par_none)))

def laws_markRangeS_vo_b0 (x : (Int × Int × (List dRange))) (k : (Int × Int × (List dRange)) ⊕ (Int × Int × (List dRange)) → Option Res) : Option Res :=
    bif (decide (x.2.1 < (x.2.2.length : Int))) then
      laws_markText_k x.1 (fun y2 =>
        if 0 ≤ x.2.1 ∧ x.2.1 < (x.2.2.length : Int) then
          laws_markText_k (IntKind.wrap .i64 (x.1 + (1 : Int))) (fun y3 =>
            if 0 ≤ x.2.1 ∧ x.2.1 < ((x.2.2.set x.2.1.toNat (y2, (x.2.2.getD x.2.1.toNat (Ty.zero tRange)).2)).length : Int) then
              k (.inl ((IntKind.wrap .i64 ((IntKind.wrap .i64 (x.1 + (1 : Int))) + (1 : Int))), (IntKind.wrap .i64 (x.2.1 + (1 : Int))), ((x.2.2.set x.2.1.toNat (y2, (x.2.2.getD x.2.1.toNat (Ty.zero tRange)).2)).set x.2.1.toNat (((x.2.2.set x.2.1.toNat (y2, (x.2.2.getD x.2.1.toNat (Ty.zero tRange)).2)).getD x.2.1.toNat (Ty.zero tRange)).1, y3))))
            else none)
        else none)
    else
      k (.inr (x.1, x.2.1, x.2.2))

theorem laws_markRangeS_vo_bp0 (x : (Int × Int × (List dRange))) : Par (laws_markRangeS_vo_b0 x) := by
  unfold laws_markRangeS_vo_b0
  exact (par_bif ((laws_markText_p x.1).bind fun y2 => (par_ite (c := 0 ≤ x.2.1 ∧ x.2.1 < (x.2.2.length : Int)) ((laws_markText_p (IntKind.wrap .i64 (x.1 + (1 : Int)))).bind fun y3 => (par_ite (c := 0 ≤ x.2.1 ∧ x.2.1 < ((x.2.2.set x.2.1.toNat (y2, (x.2.2.getD x.2.1.toNat (Ty.zero tRange)).2)).length : Int)) (par_ret _) par_none)) par_none)) (par_ret _))

def laws_markRangeS_vo_d (a0 : Int) (a1 : (List dRange)) (k : (Int × (List dRange)) → Option Res) : Option Res :=
  loopK laws_markRangeS_vo_b0 Fuel (a0, (0 : Int), a1) (fun z1 =>
    k (z1.1, z1.2.2))

theorem laws_markRangeS_vo_h : ∃ g : Int → (List dRange) → ((Int × (List dRange)) → Option Res) → Option Res, g = laws_markRangeS_vo_d := ⟨_, rfl⟩
def laws_markRangeS_vo_k : Int → (List dRange) → ((Int × (List dRange)) → Option Res) → Option Res := Classical.choose laws_markRangeS_vo_h
theorem laws_markRangeS_vo_e : laws_markRangeS_vo_k = laws_markRangeS_vo_d := Classical.choose_spec laws_markRangeS_vo_h

theorem laws_markRangeS_vo_p (a0 : Int) (a1 : (List dRange)) : Par (laws_markRangeS_vo_k a0 a1) := by
  rw [laws_markRangeS_vo_e]
  unfold laws_markRangeS_vo_d
  exact ((par_loop laws_markRangeS_vo_bp0 Fuel (a0, (0 : Int), a1)).bind fun z1 => (par_ret _))

def laws_markWriteS_vo_b0 (x : (Int × Int × (List dWrite))) (k : (Int × Int × (List dWrite)) ⊕ (Int × Int × (List dWrite)) → Option Res) : Option Res :=
    bif (decide (x.2.1 < (x.2.2.length : Int))) then
      laws_markText_k x.1 (fun y2 =>
        if 0 ≤ x.2.1 ∧ x.2.1 < (x.2.2.length : Int) then
          laws_markText_k (IntKind.wrap .i64 (x.1 + (1 : Int))) (fun y3 =>
            if 0 ≤ x.2.1 ∧ x.2.1 < ((x.2.2.set x.2.1.toNat (y2, (x.2.2.getD x.2.1.toNat (Ty.zero tWrite)).2)).length : Int) then
              if 0 ≤ x.2.1 ∧ x.2.1 < (((x.2.2.set x.2.1.toNat (y2, (x.2.2.getD x.2.1.toNat (Ty.zero tWrite)).2)).set x.2.1.toNat (((x.2.2.set x.2.1.toNat (y2, (x.2.2.getD x.2.1.toNat (Ty.zero tWrite)).2)).getD x.2.1.toNat (Ty.zero tWrite)).1, (y3, ((x.2.2.set x.2.1.toNat (y2, (x.2.2.getD x.2.1.toNat (Ty.zero tWrite)).2)).getD x.2.1.toNat (Ty.zero tWrite)).2.2))).length : Int) then
                k (.inl ((IntKind.wrap .i64 ((IntKind.wrap .i64 ((IntKind.wrap .i64 (x.1 + (1 : Int))) + (1 : Int))) + (1 : Int))), (IntKind.wrap .i64 (x.2.1 + (1 : Int))), (((x.2.2.set x.2.1.toNat (y2, (x.2.2.getD x.2.1.toNat (Ty.zero tWrite)).2)).set x.2.1.toNat (((x.2.2.set x.2.1.toNat (y2, (x.2.2.getD x.2.1.toNat (Ty.zero tWrite)).2)).getD x.2.1.toNat (Ty.zero tWrite)).1, (y3, ((x.2.2.set x.2.1.toNat (y2, (x.2.2.getD x.2.1.toNat (Ty.zero tWrite)).2)).getD x.2.1.toNat (Ty.zero tWrite)).2.2))).set x.2.1.toNat ((((x.2.2.set x.2.1.toNat (y2, (x.2.2.getD x.2.1.toNat (Ty.zero tWrite)).2)).set x.2.1.toNat (((x.2.2.set x.2.1.toNat (y2, (x.2.2.getD x.2.1.toNat (Ty.zero tWrite)).2)).getD x.2.1.toNat (Ty.zero tWrite)).1, (y3, ((x.2.2.set x.2.1.toNat (y2, (x.2.2.getD x.2.1.toNat (Ty.zero tWrite)).2)).getD x.2.1.toNat (Ty.zero tWrite)).2.2))).getD x.2.1.toNat (Ty.zero tWrite)).1, ((((x.2.2.set x.2.1.toNat (y2, (x.2.2.getD x.2.1.toNat (Ty.zero tWrite)).2)).set x.2.1.toNat (((x.2.2.set x.2.1.toNat (y2, (x.2.2.getD x.2.1.toNat (Ty.zero tWrite)).2)).getD x.2.1.toNat (Ty.zero tWrite)).1, (y3, ((x.2.2.set x.2.1.toNat (y2, (x.2.2.getD x.2.1.toNat (Ty.zero tWrite)).2)).getD x.2.1.toNat (Ty.zero tWrite)).2.2))).getD x.2.1.toNat (Ty.zero tWrite)).2.1, (((IntKind.wrap .i64 ((IntKind.wrap .i64 (x.1 + (1 : Int))) + (1 : Int))).tmod (3 : Int)) == (0 : Int)))))))
              else none
            else none)
        else none)
    else
      k (.inr (x.1, x.2.1, x.2.2))

theorem laws_markWriteS_vo_bp0 (x : (Int × Int × (List dWrite))) : Par (laws_markWriteS_vo_b0 x) := by
  unfold laws_markWriteS_vo_b0
  exact (par_bif ((laws_markText_p x.1).bind fun y2 => (par_ite (c := 0 ≤ x.2.1 ∧ x.2.1 < (x.2.2.length : Int)) ((laws_markText_p (IntKind.wrap .i64 (x.1 + (1 : Int)))).bind fun y3 => (par_ite (c := 0 ≤ x.2.1 ∧ x.2.1 < ((x.2.2.set x.2.1.toNat (y2, (x.2.2.getD x.2.1.toNat (Ty.zero tWrite)).2)).length : Int)) (par_ite (c := 0 ≤ x.2.1 ∧ x.2.1 < (((x.2.2.set x.2.1.toNat (y2, (x.2.2.getD x.2.1.toNat (Ty.zero tWrite)).2)).set x.2.1.toNat (((x.2.2.set x.2.1.toNat (y2, (x.2.2.getD x.2.1.toNat (Ty.zero tWrite)).2)).getD x.2.1.toNat (Ty.zero tWrite)).1, (y3, ((x.2.2.set x.2.1.toNat (y2, (x.2.2.getD x.2.1.toNat (Ty.zero tWrite)).2)).getD x.2.1.toNat (Ty.zero tWrite)).2.2))).length : Int)) (par_ret _) par_none) par_none)) par_none)) (par_ret _))

def laws_markWriteS_vo_d (a0 : Int) (a1 : (List dWrite)) (k : (Int × (List dWrite)) → Option Res) : Option Res :=
  loopK laws_markWriteS_vo_b0 Fuel (a0, (0 : Int), a1) (fun z1 =>
    k (z1.1, z1.2.2))

theorem laws_markWriteS_vo_h : ∃ g : Int → (List dWrite) → ((Int × (List dWrite)) → Option Res) → Option Res, g = laws_markWriteS_vo_d := ⟨_, rfl⟩
def laws_markWriteS_vo_k : Int → (List dWrite) → ((Int × (List dWrite)) → Option Res) → Option Res := Classical.choose laws_markWriteS_vo_h
theorem laws_markWriteS_vo_e : laws_markWriteS_vo_k = laws_markWriteS_vo_d := Classical.choose_spec laws_markWriteS_vo_h

theorem laws_markWriteS_vo_p (a0 : Int) (a1 : (List dWrite)) : Par (laws_markWriteS_vo_k a0 a1) := by
  rw [laws_markWriteS_vo_e]
  unfold laws_markWriteS_vo_d
  exact ((par_loop laws_markWriteS_vo_bp0 Fuel (a0, (0 : Int), a1)).bind fun z1 => (par_ret _))

def laws_markTxn_va_d (a0 : Int) (a1 : Int) (a2 : Int) (a3 : Int) (a4 : Bool) (a5 : ByteArray) (a6 : Int) (a7 : (List dRange)) (a8 : (List dWrite)) (k : (Int × (List dRange) × (List dWrite)) → Option Res) : Option Res :=
  laws_markRangeS_vo_k a6 a7 (fun y1 =>
    laws_markWriteS_vo_k y1.1 a8 (fun y2 =>
      k (y2.1, y1.2, y2.2)))

theorem laws_markTxn_va_h : ∃ g : Int → Int → Int → Int → Bool → ByteArray → Int → (List dRange) → (List dWrite) → ((Int × (List dRange) × (List dWrite)) → Option Res) → Option Res, g = laws_markTxn_va_d := ⟨_, rfl⟩
def laws_markTxn_va_k : Int → Int → Int → Int → Bool → ByteArray → Int → (List dRange) → (List dWrite) → ((Int × (List dRange) × (List dWrite)) → Option Res) → Option Res := Classical.choose laws_markTxn_va_h
theorem laws_markTxn_va_e : laws_markTxn_va_k = laws_markTxn_va_d := Classical.choose_spec laws_markTxn_va_h

theorem laws_markTxn_va_p (a0 : Int) (a1 : Int) (a2 : Int) (a3 : Int) (a4 : Bool) (a5 : ByteArray) (a6 : Int) (a7 : (List dRange)) (a8 : (List dWrite)) : Par (laws_markTxn_va_k a0 a1 a2 a3 a4 a5 a6 a7 a8) := by
  rw [laws_markTxn_va_e]
  unfold laws_markTxn_va_d
  exact ((laws_markRangeS_vo_p a6 a7).bind fun y1 => ((laws_markWriteS_vo_p y1.1 a8).bind fun y2 => (par_ret _)))

def laws_heldRangeS_b0 (x : ((List dRange) × Int × Int × Int)) (k : ((List dRange) × Int × Int × Int) ⊕ (((List dRange) × Int × Int × Int) ⊕ ((List dRange) × Int × Int × Int)) → Option Res) : Option Res :=
    bif (decide (x.2.2.2 < (x.1.length : Int))) then
      if 0 ≤ x.2.2.2 ∧ x.2.2.2 < (x.1.length : Int) then
        laws_markText_k x.2.1 (fun y3 =>
          bif (!(strEq ((rd (Ty.zero tRange) x.1 x.2.2.2).1) y3)) then
            k (.inr (.inl (x.1, x.2.1, (-1 : Int), x.2.2.2)))
          else
            if 0 ≤ x.2.2.2 ∧ x.2.2.2 < (x.1.length : Int) then
              laws_markText_k (IntKind.wrap .i64 (x.2.1 + (1 : Int))) (fun y4 =>
                bif (!(strEq ((rd (Ty.zero tRange) x.1 x.2.2.2).2) y4)) then
                  k (.inr (.inl (x.1, (IntKind.wrap .i64 (x.2.1 + (1 : Int))), (-1 : Int), x.2.2.2)))
                else
                  k (.inl (x.1, (IntKind.wrap .i64 ((IntKind.wrap .i64 (x.2.1 + (1 : Int))) + (1 : Int))), x.2.2.1, (IntKind.wrap .i64 (x.2.2.2 + (1 : Int))))))
            else none)
      else none
    else
      k (.inr (.inr (x.1, x.2.1, x.2.2.1, x.2.2.2)))

theorem laws_heldRangeS_bp0 (x : ((List dRange) × Int × Int × Int)) : Par (laws_heldRangeS_b0 x) := by
  unfold laws_heldRangeS_b0
  exact (par_bif (par_ite (c := 0 ≤ x.2.2.2 ∧ x.2.2.2 < (x.1.length : Int)) ((laws_markText_p x.2.1).bind fun y3 => (par_bif (par_ret _) (par_ite (c := 0 ≤ x.2.2.2 ∧ x.2.2.2 < (x.1.length : Int)) ((laws_markText_p (IntKind.wrap .i64 (x.2.1 + (1 : Int)))).bind fun y4 => (par_bif (par_ret _) (par_ret _))) par_none))) par_none) (par_ret _))

def laws_heldRangeS_d (a0 : (List dRange)) (a1 : Int) (k : Int → Option Res) : Option Res :=
  loopK laws_heldRangeS_b0 Fuel (a0, a1, (0 : Int), (0 : Int)) (Sum.elim (fun z1 =>
    k z1.2.2.1) (fun z2 =>
    k z2.2.1))

theorem laws_heldRangeS_h : ∃ g : (List dRange) → Int → (Int → Option Res) → Option Res, g = laws_heldRangeS_d := ⟨_, rfl⟩
def laws_heldRangeS_k : (List dRange) → Int → (Int → Option Res) → Option Res := Classical.choose laws_heldRangeS_h
theorem laws_heldRangeS_e : laws_heldRangeS_k = laws_heldRangeS_d := Classical.choose_spec laws_heldRangeS_h

theorem laws_heldRangeS_p (a0 : (List dRange)) (a1 : Int) : Par (laws_heldRangeS_k a0 a1) := by
  rw [laws_heldRangeS_e]
  unfold laws_heldRangeS_d
  exact ((par_loop laws_heldRangeS_bp0 Fuel (a0, a1, (0 : Int), (0 : Int))).bind2 (fun z1 => (par_ret _)) (fun z2 => (par_ret _)))

def laws_heldWriteS_b0 (x : ((List dWrite) × Int × Int × Int)) (k : ((List dWrite) × Int × Int × Int) ⊕ (((List dWrite) × Int × Int × Int) ⊕ ((List dWrite) × Int × Int × Int)) → Option Res) : Option Res :=
    bif (decide (x.2.2.2 < (x.1.length : Int))) then
      if 0 ≤ x.2.2.2 ∧ x.2.2.2 < (x.1.length : Int) then
        laws_markText_k x.2.1 (fun y3 =>
          bif (!(strEq ((rd (Ty.zero tWrite) x.1 x.2.2.2).1) y3)) then
            k (.inr (.inl (x.1, x.2.1, (-1 : Int), x.2.2.2)))
          else
            if 0 ≤ x.2.2.2 ∧ x.2.2.2 < (x.1.length : Int) then
              laws_markText_k (IntKind.wrap .i64 (x.2.1 + (1 : Int))) (fun y4 =>
                bif (!(strEq ((rd (Ty.zero tWrite) x.1 x.2.2.2).2.1) y4)) then
                  k (.inr (.inl (x.1, (IntKind.wrap .i64 (x.2.1 + (1 : Int))), (-1 : Int), x.2.2.2)))
                else
                  if 0 ≤ x.2.2.2 ∧ x.2.2.2 < (x.1.length : Int) then
                    bif (!((rd (Ty.zero tWrite) x.1 x.2.2.2).2.2 == (((IntKind.wrap .i64 ((IntKind.wrap .i64 (x.2.1 + (1 : Int))) + (1 : Int))).tmod (3 : Int)) == (0 : Int)))) then
                      k (.inr (.inl (x.1, (IntKind.wrap .i64 ((IntKind.wrap .i64 (x.2.1 + (1 : Int))) + (1 : Int))), (-1 : Int), x.2.2.2)))
                    else
                      k (.inl (x.1, (IntKind.wrap .i64 ((IntKind.wrap .i64 ((IntKind.wrap .i64 (x.2.1 + (1 : Int))) + (1 : Int))) + (1 : Int))), x.2.2.1, (IntKind.wrap .i64 (x.2.2.2 + (1 : Int)))))
                  else none)
            else none)
      else none
    else
      k (.inr (.inr (x.1, x.2.1, x.2.2.1, x.2.2.2)))

theorem laws_heldWriteS_bp0 (x : ((List dWrite) × Int × Int × Int)) : Par (laws_heldWriteS_b0 x) := by
  unfold laws_heldWriteS_b0
  exact (par_bif (par_ite (c := 0 ≤ x.2.2.2 ∧ x.2.2.2 < (x.1.length : Int)) ((laws_markText_p x.2.1).bind fun y3 => (par_bif (par_ret _) (par_ite (c := 0 ≤ x.2.2.2 ∧ x.2.2.2 < (x.1.length : Int)) ((laws_markText_p (IntKind.wrap .i64 (x.2.1 + (1 : Int)))).bind fun y4 => (par_bif (par_ret _) (par_ite (c := 0 ≤ x.2.2.2 ∧ x.2.2.2 < (x.1.length : Int)) (par_bif (par_ret _) (par_ret _)) par_none))) par_none))) par_none) (par_ret _))

def laws_heldWriteS_d (a0 : (List dWrite)) (a1 : Int) (k : Int → Option Res) : Option Res :=
  loopK laws_heldWriteS_b0 Fuel (a0, a1, (0 : Int), (0 : Int)) (Sum.elim (fun z1 =>
    k z1.2.2.1) (fun z2 =>
    k z2.2.1))

theorem laws_heldWriteS_h : ∃ g : (List dWrite) → Int → (Int → Option Res) → Option Res, g = laws_heldWriteS_d := ⟨_, rfl⟩
def laws_heldWriteS_k : (List dWrite) → Int → (Int → Option Res) → Option Res := Classical.choose laws_heldWriteS_h
theorem laws_heldWriteS_e : laws_heldWriteS_k = laws_heldWriteS_d := Classical.choose_spec laws_heldWriteS_h

theorem laws_heldWriteS_p (a0 : (List dWrite)) (a1 : Int) : Par (laws_heldWriteS_k a0 a1) := by
  rw [laws_heldWriteS_e]
  unfold laws_heldWriteS_d
  exact ((par_loop laws_heldWriteS_bp0 Fuel (a0, a1, (0 : Int), (0 : Int))).bind2 (fun z1 => (par_ret _)) (fun z2 => (par_ret _)))

def laws_heldTxn_d (a0 : dTxn) (a1 : Int) (k : Int → Option Res) : Option Res :=
  laws_heldRangeS_k a0.2.2.2.2.1 a1 (fun y1 =>
    bif (decide (y1 < (0 : Int))) then
      k (-1 : Int)
    else
      laws_heldWriteS_k a0.2.2.2.2.2.1 y1 (fun y2 =>
        bif (decide (y2 < (0 : Int))) then
          k (-1 : Int)
        else
          k y2))

theorem laws_heldTxn_h : ∃ g : dTxn → Int → (Int → Option Res) → Option Res, g = laws_heldTxn_d := ⟨_, rfl⟩
def laws_heldTxn_k : dTxn → Int → (Int → Option Res) → Option Res := Classical.choose laws_heldTxn_h
theorem laws_heldTxn_e : laws_heldTxn_k = laws_heldTxn_d := Classical.choose_spec laws_heldTxn_h

theorem laws_heldTxn_p (a0 : dTxn) (a1 : Int) : Par (laws_heldTxn_k a0 a1) := by
  rw [laws_heldTxn_e]
  unfold laws_heldTxn_d
  exact ((laws_heldRangeS_p a0.2.2.2.2.1 a1).bind fun y1 => (par_bif (par_ret _) ((laws_heldWriteS_p a0.2.2.2.2.2.1 y1).bind fun y2 => (par_bif (par_ret _) (par_ret _)))))

def laws_FnExactReadTxn_j5000018 (x : (Bool × Int × Int × Int × Int × Int × Bool × ByteArray × (List dRange) × (List dWrite))) (k : (Bool × Int × Int × Int × Int × Int × Bool × ByteArray × (List dRange) × (List dWrite)) → Option Res) : Option Res :=
    laws_heldTxn_k (x.2.2.1, (x.2.2.2.1, (x.2.2.2.2.1, (x.2.2.2.2.2.1, (x.2.2.2.2.2.2.2.2.1, (x.2.2.2.2.2.2.2.2.2, (x.2.2.2.2.2.2.1, x.2.2.2.2.2.2.2.1))))))) (1 : Int) (fun y11 =>
      bif (decide (y11 < (0 : Int))) then
        k (false, x.2.1, x.2.2.1, x.2.2.2.1, x.2.2.2.2.1, x.2.2.2.2.2.1, x.2.2.2.2.2.2.1, x.2.2.2.2.2.2.2.1, x.2.2.2.2.2.2.2.2.1, x.2.2.2.2.2.2.2.2.2)
      else
        bif (y11 != x.2.1) then
          k (false, x.2.1, x.2.2.1, x.2.2.2.1, x.2.2.2.2.1, x.2.2.2.2.2.1, x.2.2.2.2.2.2.1, x.2.2.2.2.2.2.2.1, x.2.2.2.2.2.2.2.2.1, x.2.2.2.2.2.2.2.2.2)
        else
          k (true, x.2.1, x.2.2.1, x.2.2.2.1, x.2.2.2.2.1, x.2.2.2.2.2.1, x.2.2.2.2.2.2.1, x.2.2.2.2.2.2.2.1, x.2.2.2.2.2.2.2.2.1, x.2.2.2.2.2.2.2.2.2))

theorem laws_FnExactReadTxn_jp5000018 (x : (Bool × Int × Int × Int × Int × Int × Bool × ByteArray × (List dRange) × (List dWrite))) : Par (laws_FnExactReadTxn_j5000018 x) := by
  unfold laws_FnExactReadTxn_j5000018
  exact ((laws_heldTxn_p (x.2.2.1, (x.2.2.2.1, (x.2.2.2.2.1, (x.2.2.2.2.2.1, (x.2.2.2.2.2.2.2.2.1, (x.2.2.2.2.2.2.2.2.2, (x.2.2.2.2.2.2.1, x.2.2.2.2.2.2.2.1))))))) (1 : Int)).bind fun y11 => (par_bif (par_ret _) (par_bif (par_ret _) (par_ret _))))

def laws_FnExactReadTxn_j5000007 (x : (ByteArray × Int × Bool × Int × Bool × Int × Int × Int × Int × Bool × ByteArray × Int × Int × Int × Int × Bool × ByteArray × (List dRange) × (List dWrite) × (List dRange) × (List dWrite))) (k : ((ByteArray × Int × Bool × Int × Bool × Int × Int × Int × Int × Bool × ByteArray × Int × Int × Int × Int × Bool × ByteArray × (List dRange) × (List dWrite) × (List dRange) × (List dWrite)) ⊕ (Bool × Int × Int × Int × Int × Bool × ByteArray × (List dRange) × (List dWrite))) → Option Res) : Option Res :=
    laws_markTxn_va_k x.2.2.2.2.2.2.2.2.2.2.2.1 x.2.2.2.2.2.2.2.2.2.2.2.2.1 x.2.2.2.2.2.2.2.2.2.2.2.2.2.1 x.2.2.2.2.2.2.2.2.2.2.2.2.2.2.1 x.2.2.2.2.2.2.2.2.2.2.2.2.2.2.2.1 x.2.2.2.2.2.2.2.2.2.2.2.2.2.2.2.2.1 (1 : Int) x.2.2.2.2.2.2.2.2.2.2.2.2.2.2.2.2.2.2.2.1 x.2.2.2.2.2.2.2.2.2.2.2.2.2.2.2.2.2.2.2.2 (fun y6 =>
      laws_heldTxn_k (x.2.2.2.2.2.2.2.2.2.2.2.1, (x.2.2.2.2.2.2.2.2.2.2.2.2.1, (x.2.2.2.2.2.2.2.2.2.2.2.2.2.1, (x.2.2.2.2.2.2.2.2.2.2.2.2.2.2.1, (y6.2.1, (y6.2.2, (x.2.2.2.2.2.2.2.2.2.2.2.2.2.2.2.1, x.2.2.2.2.2.2.2.2.2.2.2.2.2.2.2.2.1))))))) (1 : Int) (fun y7 =>
        bif (decide (y7 < (0 : Int))) then
          k (.inl (x.1, x.2.1, false, x.2.2.2.1, x.2.2.2.2.1, x.2.2.2.2.2.1, x.2.2.2.2.2.2.1, x.2.2.2.2.2.2.2.1, x.2.2.2.2.2.2.2.2.1, x.2.2.2.2.2.2.2.2.2.1, x.2.2.2.2.2.2.2.2.2.2.1, x.2.2.2.2.2.2.2.2.2.2.2.1, x.2.2.2.2.2.2.2.2.2.2.2.2.1, x.2.2.2.2.2.2.2.2.2.2.2.2.2.1, x.2.2.2.2.2.2.2.2.2.2.2.2.2.2.1, x.2.2.2.2.2.2.2.2.2.2.2.2.2.2.2.1, x.2.2.2.2.2.2.2.2.2.2.2.2.2.2.2.2.1, x.2.2.2.2.2.2.2.2.2.2.2.2.2.2.2.2.2.1, x.2.2.2.2.2.2.2.2.2.2.2.2.2.2.2.2.2.2.1, y6.2.1, y6.2.2))
        else
          bif (y7 != y6.1) then
            k (.inl (x.1, x.2.1, false, x.2.2.2.1, x.2.2.2.2.1, x.2.2.2.2.2.1, x.2.2.2.2.2.2.1, x.2.2.2.2.2.2.2.1, x.2.2.2.2.2.2.2.2.1, x.2.2.2.2.2.2.2.2.2.1, x.2.2.2.2.2.2.2.2.2.2.1, x.2.2.2.2.2.2.2.2.2.2.2.1, x.2.2.2.2.2.2.2.2.2.2.2.2.1, x.2.2.2.2.2.2.2.2.2.2.2.2.2.1, x.2.2.2.2.2.2.2.2.2.2.2.2.2.2.1, x.2.2.2.2.2.2.2.2.2.2.2.2.2.2.2.1, x.2.2.2.2.2.2.2.2.2.2.2.2.2.2.2.2.1, x.2.2.2.2.2.2.2.2.2.2.2.2.2.2.2.2.2.1, x.2.2.2.2.2.2.2.2.2.2.2.2.2.2.2.2.2.2.1, y6.2.1, y6.2.2))
          else
            impl_ReadTxn_k x.1 x.2.1 (fun y8 =>
              laws_eqTxn_k (y8.1, (y8.2.1, (y8.2.2.1, (y8.2.2.2.1, (y8.2.2.2.2.2.2.2.2.1, (y8.2.2.2.2.2.2.2.2.2, (y8.2.2.2.2.1, y8.2.2.2.2.2.1))))))) (x.2.2.2.2.2.1, (x.2.2.2.2.2.2.1, (x.2.2.2.2.2.2.2.1, (x.2.2.2.2.2.2.2.2.1, (x.2.2.2.2.2.2.2.2.2.2.2.2.2.2.2.2.2.1, (x.2.2.2.2.2.2.2.2.2.2.2.2.2.2.2.2.2.2.1, (x.2.2.2.2.2.2.2.2.2.1, x.2.2.2.2.2.2.2.2.2.2.1))))))) (fun y9 =>
                bif (!y9) then
                  k (.inl (x.1, x.2.1, false, x.2.2.2.1, x.2.2.2.2.1, x.2.2.2.2.2.1, x.2.2.2.2.2.2.1, x.2.2.2.2.2.2.2.1, x.2.2.2.2.2.2.2.2.1, x.2.2.2.2.2.2.2.2.2.1, x.2.2.2.2.2.2.2.2.2.2.1, x.2.2.2.2.2.2.2.2.2.2.2.1, x.2.2.2.2.2.2.2.2.2.2.2.2.1, x.2.2.2.2.2.2.2.2.2.2.2.2.2.1, x.2.2.2.2.2.2.2.2.2.2.2.2.2.2.1, x.2.2.2.2.2.2.2.2.2.2.2.2.2.2.2.1, x.2.2.2.2.2.2.2.2.2.2.2.2.2.2.2.2.1, x.2.2.2.2.2.2.2.2.2.2.2.2.2.2.2.2.2.1, x.2.2.2.2.2.2.2.2.2.2.2.2.2.2.2.2.2.2.1, y6.2.1, y6.2.2))
                else
                  bif (y8.2.2.2.2.2.2.1 != x.2.2.2.1) then
                    k (.inl (x.1, x.2.1, false, x.2.2.2.1, x.2.2.2.2.1, x.2.2.2.2.2.1, x.2.2.2.2.2.2.1, x.2.2.2.2.2.2.2.1, x.2.2.2.2.2.2.2.2.1, x.2.2.2.2.2.2.2.2.2.1, x.2.2.2.2.2.2.2.2.2.2.1, x.2.2.2.2.2.2.2.2.2.2.2.1, x.2.2.2.2.2.2.2.2.2.2.2.2.1, x.2.2.2.2.2.2.2.2.2.2.2.2.2.1, x.2.2.2.2.2.2.2.2.2.2.2.2.2.2.1, x.2.2.2.2.2.2.2.2.2.2.2.2.2.2.2.1, x.2.2.2.2.2.2.2.2.2.2.2.2.2.2.2.2.1, x.2.2.2.2.2.2.2.2.2.2.2.2.2.2.2.2.2.1, x.2.2.2.2.2.2.2.2.2.2.2.2.2.2.2.2.2.2.1, y6.2.1, y6.2.2))
                  else
                    bif (!(y8.2.2.2.2.2.2.2.1 == x.2.2.2.2.1)) then
                      k (.inl (x.1, x.2.1, false, x.2.2.2.1, x.2.2.2.2.1, x.2.2.2.2.2.1, x.2.2.2.2.2.2.1, x.2.2.2.2.2.2.2.1, x.2.2.2.2.2.2.2.2.1, x.2.2.2.2.2.2.2.2.2.1, x.2.2.2.2.2.2.2.2.2.2.1, x.2.2.2.2.2.2.2.2.2.2.2.1, x.2.2.2.2.2.2.2.2.2.2.2.2.1, x.2.2.2.2.2.2.2.2.2.2.2.2.2.1, x.2.2.2.2.2.2.2.2.2.2.2.2.2.2.1, x.2.2.2.2.2.2.2.2.2.2.2.2.2.2.2.1, x.2.2.2.2.2.2.2.2.2.2.2.2.2.2.2.2.1, x.2.2.2.2.2.2.2.2.2.2.2.2.2.2.2.2.2.1, x.2.2.2.2.2.2.2.2.2.2.2.2.2.2.2.2.2.2.1, y6.2.1, y6.2.2))
                    else
                      laws_FnExactReadTxn_j5000018 (x.2.2.1, y6.1, x.2.2.2.2.2.2.2.2.2.2.2.1, x.2.2.2.2.2.2.2.2.2.2.2.2.1, x.2.2.2.2.2.2.2.2.2.2.2.2.2.1, x.2.2.2.2.2.2.2.2.2.2.2.2.2.2.1, x.2.2.2.2.2.2.2.2.2.2.2.2.2.2.2.1, x.2.2.2.2.2.2.2.2.2.2.2.2.2.2.2.2.1, y6.2.1, y6.2.2) (fun z10 =>
                        k (.inr (z10.1, z10.2.2.1, z10.2.2.2.1, z10.2.2.2.2.1, z10.2.2.2.2.2.1, z10.2.2.2.2.2.2.1, z10.2.2.2.2.2.2.2.1, z10.2.2.2.2.2.2.2.2.1, z10.2.2.2.2.2.2.2.2.2)))))))

theorem laws_FnExactReadTxn_jp5000007 (x : (ByteArray × Int × Bool × Int × Bool × Int × Int × Int × Int × Bool × ByteArray × Int × Int × Int × Int × Bool × ByteArray × (List dRange) × (List dWrite) × (List dRange) × (List dWrite))) : Par (laws_FnExactReadTxn_j5000007 x) := by
  unfold laws_FnExactReadTxn_j5000007
  exact ((laws_markTxn_va_p x.2.2.2.2.2.2.2.2.2.2.2.1 x.2.2.2.2.2.2.2.2.2.2.2.2.1 x.2.2.2.2.2.2.2.2.2.2.2.2.2.1 x.2.2.2.2.2.2.2.2.2.2.2.2.2.2.1 x.2.2.2.2.2.2.2.2.2.2.2.2.2.2.2.1 x.2.2.2.2.2.2.2.2.2.2.2.2.2.2.2.2.1 (1 : Int) x.2.2.2.2.2.2.2.2.2.2.2.2.2.2.2.2.2.2.2.1 x.2.2.2.2.2.2.2.2.2.2.2.2.2.2.2.2.2.2.2.2).bind fun y6 => ((laws_heldTxn_p (x.2.2.2.2.2.2.2.2.2.2.2.1, (x.2.2.2.2.2.2.2.2.2.2.2.2.1, (x.2.2.2.2.2.2.2.2.2.2.2.2.2.1, (x.2.2.2.2.2.2.2.2.2.2.2.2.2.2.1, (y6.2.1, (y6.2.2, (x.2.2.2.2.2.2.2.2.2.2.2.2.2.2.2.1, x.2.2.2.2.2.2.2.2.2.2.2.2.2.2.2.2.1))))))) (1 : Int)).bind fun y7 => (par_bif (par_ret _) (par_bif (par_ret _) ((impl_ReadTxn_p x.1 x.2.1).bind fun y8 => ((laws_eqTxn_p (y8.1, (y8.2.1, (y8.2.2.1, (y8.2.2.2.1, (y8.2.2.2.2.2.2.2.2.1, (y8.2.2.2.2.2.2.2.2.2, (y8.2.2.2.2.1, y8.2.2.2.2.2.1))))))) (x.2.2.2.2.2.1, (x.2.2.2.2.2.2.1, (x.2.2.2.2.2.2.2.1, (x.2.2.2.2.2.2.2.2.1, (x.2.2.2.2.2.2.2.2.2.2.2.2.2.2.2.2.2.1, (x.2.2.2.2.2.2.2.2.2.2.2.2.2.2.2.2.2.2.1, (x.2.2.2.2.2.2.2.2.2.1, x.2.2.2.2.2.2.2.2.2.2.1)))))))).bind fun y9 => (par_bif (par_ret _) (par_bif (par_ret _) (par_bif (par_ret _) ((laws_FnExactReadTxn_jp5000018 (x.2.2.1, y6.1, x.2.2.2.2.2.2.2.2.2.2.2.1, x.2.2.2.2.2.2.2.2.2.2.2.2.1, x.2.2.2.2.2.2.2.2.2.2.2.2.2.1, x.2.2.2.2.2.2.2.2.2.2.2.2.2.2.1, x.2.2.2.2.2.2.2.2.2.2.2.2.2.2.2.1, x.2.2.2.2.2.2.2.2.2.2.2.2.2.2.2.2.1, y6.2.1, y6.2.2)).bind fun z10 => (par_ret _)))))))))))

def laws_FnExactReadTxn_d (a0 : ByteArray) (a1 : Int) (k : Bool → Option Res) : Option Res :=
  bif (decide ((a0.size : Int) > (1048576 : Int))) then
    k true
  else
    spec_ReadTxn_k a0 a1 (fun y1 =>
      impl_ReadTxn_k a0 a1 (fun y2 =>
        laws_eqTxn_k (y2.1, (y2.2.1, (y2.2.2.1, (y2.2.2.2.1, (y2.2.2.2.2.2.2.2.2.1, (y2.2.2.2.2.2.2.2.2.2, (y2.2.2.2.2.1, y2.2.2.2.2.2.1))))))) (y1.1, (y1.2.1, (y1.2.2.1, (y1.2.2.2.1, (y1.2.2.2.2.2.2.2.2.1, (y1.2.2.2.2.2.2.2.2.2, (y1.2.2.2.2.1, y1.2.2.2.2.2.1))))))) (fun y3 =>
          bif (!y3) then
            k false
          else
            bif (y2.2.2.2.2.2.2.1 != y1.2.2.2.2.2.2.1) then
              k false
            else
              bif (!(y2.2.2.2.2.2.2.2.1 == y1.2.2.2.2.2.2.2.1)) then
                k false
              else
                laws_FnExactReadTxn_j5000007 (a0, a1, false, y1.2.2.2.2.2.2.1, y1.2.2.2.2.2.2.2.1, y1.1, y1.2.1, y1.2.2.1, y1.2.2.2.1, y1.2.2.2.2.1, y1.2.2.2.2.2.1, y2.1, y2.2.1, y2.2.2.1, y2.2.2.2.1, y2.2.2.2.2.1, y2.2.2.2.2.2.1, y1.2.2.2.2.2.2.2.2.1, y1.2.2.2.2.2.2.2.2.2, y2.2.2.2.2.2.2.2.2.1, y2.2.2.2.2.2.2.2.2.2) (Sum.elim (fun z4 =>
                  k z4.2.2.1) (fun z5 =>
                  k z5.1)))))

theorem laws_FnExactReadTxn_h : ∃ g : ByteArray → Int → (Bool → Option Res) → Option Res, g = laws_FnExactReadTxn_d := ⟨_, rfl⟩
def laws_FnExactReadTxn_k : ByteArray → Int → (Bool → Option Res) → Option Res := Classical.choose laws_FnExactReadTxn_h
theorem laws_FnExactReadTxn_e : laws_FnExactReadTxn_k = laws_FnExactReadTxn_d := Classical.choose_spec laws_FnExactReadTxn_h

theorem laws_FnExactReadTxn_p (a0 : ByteArray) (a1 : Int) : Par (laws_FnExactReadTxn_k a0 a1) := by
  rw [laws_FnExactReadTxn_e]
  unfold laws_FnExactReadTxn_d
  exact (par_bif (par_ret _) ((spec_ReadTxn_p a0 a1).bind fun y1 => ((impl_ReadTxn_p a0 a1).bind fun y2 => ((laws_eqTxn_p (y2.1, (y2.2.1, (y2.2.2.1, (y2.2.2.2.1, (y2.2.2.2.2.2.2.2.2.1, (y2.2.2.2.2.2.2.2.2.2, (y2.2.2.2.2.1, y2.2.2.2.2.2.1))))))) (y1.1, (y1.2.1, (y1.2.2.1, (y1.2.2.2.1, (y1.2.2.2.2.2.2.2.2.1, (y1.2.2.2.2.2.2.2.2.2, (y1.2.2.2.2.1, y1.2.2.2.2.2.1)))))))).bind fun y3 => (par_bif (par_ret _) (par_bif (par_ret _) (par_bif (par_ret _) ((laws_FnExactReadTxn_jp5000007 (a0, a1, false, y1.2.2.2.2.2.2.1, y1.2.2.2.2.2.2.2.1, y1.1, y1.2.1, y1.2.2.1, y1.2.2.2.1, y1.2.2.2.2.1, y1.2.2.2.2.2.1, y2.1, y2.2.1, y2.2.2.1, y2.2.2.2.1, y2.2.2.2.2.1, y2.2.2.2.2.2.1, y1.2.2.2.2.2.2.2.2.1, y1.2.2.2.2.2.2.2.2.2, y2.2.2.2.2.2.2.2.2.1, y2.2.2.2.2.2.2.2.2.2)).bind2 (fun z4 => (par_ret _)) (fun z5 => (par_ret _))))))))))

def spec_l01In_g (args : List AV) (st : St) (k : K1) : Option Res :=
  onPats [.int .i64, .int .i64, .int .i64] [] args st (fun p q => spec_l01In_k p.1 p.2.1 p.2.2.1 (fun (y : Bool) => k (.bool y) []))
    (none)

theorem spec_l01In_q (a0 : Int) (a1 : Int) (a2 : Int) : Par (fun k : AV × St → Option Res => spec_l01In_g [.int .i64 a0, .int .i64 a1, .int .i64 a2] [] (fun v s => k (v, s))) :=
  (spec_l01In_p a0 a1 a2).bind (H := fun (y : Bool) (k : AV × St → Option Res) => (fun (y : Bool) => k ((.bool y : AV), ([] : St))) y) (fun y => par_ret _)

def spec_l01Var_g (args : List AV) (st : St) (k : K1) : Option Res :=
  onPats [.int .i64] [] args st (fun p q => spec_l01Var_k p.1 (fun (y : ByteArray) => k (.str y) []))
    (none)

theorem spec_l01Var_q (a0 : Int) : Par (fun k : AV × St → Option Res => spec_l01Var_g [.int .i64 a0] [] (fun v s => k (v, s))) :=
  (spec_l01Var_p a0).bind (H := fun (y : ByteArray) (k : AV × St → Option Res) => (fun (y : ByteArray) => k ((.str y : AV), ([] : St))) y) (fun y => par_ret _)

def spec_ReadVar_g (args : List AV) (st : St) (k : K1) : Option Res :=
  onPats [.str, .int .i64] [] args st (fun p q => spec_ReadVar_k p.1 p.2.1 (fun (y : (Int × Int × Bool)) => k (.tup [.int .i64 y.1, .int .i64 y.2.1, .bool y.2.2]) []))
    (none)

theorem spec_ReadVar_q (a0 : ByteArray) (a1 : Int) : Par (fun k : AV × St → Option Res => spec_ReadVar_g [.str a0, .int .i64 a1] [] (fun v s => k (v, s))) :=
  (spec_ReadVar_p a0 a1).bind (H := fun (y : (Int × Int × Bool)) (k : AV × St → Option Res) => (fun (y : (Int × Int × Bool)) => k ((.tup [.int .i64 y.1, .int .i64 y.2.1, .bool y.2.2] : AV), ([] : St))) y) (fun y => par_ret _)

def spec_l07Var_g (args : List AV) (st : St) (k : K1) : Option Res :=
  onPats [.bp 0 0] [.box [.str, .int .i64, .bool]] args st (fun p q => spec_l07Var_k q.1.1 q.1.2.1 q.1.2.2.1 (fun (y : (Int × ByteArray × Int × Bool)) => k (.int .i64 y.1) [.box [.str y.2.1, .int .i64 y.2.2.1, .bool y.2.2.2]]))
    (none)

theorem spec_l07Var_q (a0 : ByteArray) (a1 : Int) (a2 : Bool) : Par (fun k : AV × St → Option Res => spec_l07Var_g [.bp 0 0] [.box [.str a0, .int .i64 a1, .bool a2]] (fun v s => k (v, s))) :=
  (spec_l07Var_p a0 a1 a2).bind (H := fun (y : (Int × ByteArray × Int × Bool)) (k : AV × St → Option Res) => (fun (y : (Int × ByteArray × Int × Bool)) => k ((.int .i64 y.1 : AV), ([.box [.str y.2.1, .int .i64 y.2.2.1, .bool y.2.2.2]] : St))) y) (fun y => par_ret _)

def spec_ReadShort_g (args : List AV) (st : St) (k : K1) : Option Res :=
  onPats [.str, .int .i64] [] args st (fun p q => spec_ReadShort_k p.1 p.2.1 (fun (y : (ByteArray × Int × Bool)) => k (.tup [.str y.1, .int .i64 y.2.1, .bool y.2.2]) []))
    (none)

theorem spec_ReadShort_q (a0 : ByteArray) (a1 : Int) : Par (fun k : AV × St → Option Res => spec_ReadShort_g [.str a0, .int .i64 a1] [] (fun v s => k (v, s))) :=
  (spec_ReadShort_p a0 a1).bind (H := fun (y : (ByteArray × Int × Bool)) (k : AV × St → Option Res) => (fun (y : (ByteArray × Int × Bool)) => k ((.tup [.str y.1, .int .i64 y.2.1, .bool y.2.2] : AV), ([] : St))) y) (fun y => par_ret _)

def spec_l07ReadShort_g (args : List AV) (st : St) (k : K1) : Option Res :=
  onPats [.bp 0 0] [.box [.str, .int .i64, .bool]] args st (fun p q => spec_l07ReadShort_k q.1.1 q.1.2.1 q.1.2.2.1 (fun (y : (ByteArray × ByteArray × Int × Bool)) => k (.str y.1) [.box [.str y.2.1, .int .i64 y.2.2.1, .bool y.2.2.2]]))
    (none)

theorem spec_l07ReadShort_q (a0 : ByteArray) (a1 : Int) (a2 : Bool) : Par (fun k : AV × St → Option Res => spec_l07ReadShort_g [.bp 0 0] [.box [.str a0, .int .i64 a1, .bool a2]] (fun v s => k (v, s))) :=
  (spec_l07ReadShort_p a0 a1 a2).bind (H := fun (y : (ByteArray × ByteArray × Int × Bool)) (k : AV × St → Option Res) => (fun (y : (ByteArray × ByteArray × Int × Bool)) => k ((.str y.1 : AV), ([.box [.str y.2.1, .int .i64 y.2.2.1, .bool y.2.2.2]] : St))) y) (fun y => par_ret _)

def spec_l07ReadBit_g (args : List AV) (st : St) (k : K1) : Option Res :=
  onPats [.bp 0 0] [.box [.str, .int .i64, .bool]] args st (fun p q => spec_l07ReadBit_k q.1.1 q.1.2.1 q.1.2.2.1 (fun (y : (Bool × ByteArray × Int × Bool)) => k (.bool y.1) [.box [.str y.2.1, .int .i64 y.2.2.1, .bool y.2.2.2]]))
    (none)

theorem spec_l07ReadBit_q (a0 : ByteArray) (a1 : Int) (a2 : Bool) : Par (fun k : AV × St → Option Res => spec_l07ReadBit_g [.bp 0 0] [.box [.str a0, .int .i64 a1, .bool a2]] (fun v s => k (v, s))) :=
  (spec_l07ReadBit_p a0 a1 a2).bind (H := fun (y : (Bool × ByteArray × Int × Bool)) (k : AV × St → Option Res) => (fun (y : (Bool × ByteArray × Int × Bool)) => k ((.bool y.1 : AV), ([.box [.str y.2.1, .int .i64 y.2.2.1, .bool y.2.2.2]] : St))) y) (fun y => par_ret _)

def spec_KeyOk_g (args : List AV) (st : St) (k : K1) : Option Res :=
  onPats [.str] [] args st (fun p q => spec_KeyOk_k p.1 (fun (y : Bool) => k (.bool y) []))
    (none)

theorem spec_KeyOk_q (a0 : ByteArray) : Par (fun k : AV × St → Option Res => spec_KeyOk_g [.str a0] [] (fun v s => k (v, s))) :=
  (spec_KeyOk_p a0).bind (H := fun (y : Bool) (k : AV × St → Option Res) => (fun (y : Bool) => k ((.bool y : AV), ([] : St))) y) (fun y => par_ret _)

def spec_WriteOk_g (args : List AV) (st : St) (k : K1) : Option Res :=
  onPats [.agg [.str, .str, .bool]] [] args st (fun p q => spec_WriteOk_k (p.1.1, (p.1.2.1, p.1.2.2.1)) (fun (y : Bool) => k (.bool y) []))
    (none)

theorem spec_WriteOk_q (a0 : ByteArray) (a1 : ByteArray) (a2 : Bool) : Par (fun k : AV × St → Option Res => spec_WriteOk_g [.agg [.str a0, .str a1, .bool a2]] [] (fun v s => k (v, s))) :=
  (spec_WriteOk_p (a0, (a1, a2))).bind (H := fun (y : Bool) (k : AV × St → Option Res) => (fun (y : Bool) => k ((.bool y : AV), ([] : St))) y) (fun y => par_ret _)

def spec_WritesOk_g (args : List AV) (st : St) (k : K1) : Option Res :=
  onPats [.lst tWrite] [] args st (fun p q => spec_WritesOk_k p.1 (fun (y : Bool) => k (.bool y) []))
    (none)

theorem spec_WritesOk_q (a0 : (List dWrite)) : Par (fun k : AV × St → Option Res => spec_WritesOk_g [.lst tWrite a0] [] (fun v s => k (v, s))) :=
  (spec_WritesOk_p a0).bind (H := fun (y : Bool) (k : AV × St → Option Res) => (fun (y : Bool) => k ((.bool y : AV), ([] : St))) y) (fun y => par_ret _)

def spec_RangeOk_g (args : List AV) (st : St) (k : K1) : Option Res :=
  onPats [.agg [.str, .str]] [] args st (fun p q => spec_RangeOk_k (p.1.1, p.1.2.1) (fun (y : Bool) => k (.bool y) []))
    (none)

theorem spec_RangeOk_q (a0 : ByteArray) (a1 : ByteArray) : Par (fun k : AV × St → Option Res => spec_RangeOk_g [.agg [.str a0, .str a1]] [] (fun v s => k (v, s))) :=
  (spec_RangeOk_p (a0, a1)).bind (H := fun (y : Bool) (k : AV × St → Option Res) => (fun (y : Bool) => k ((.bool y : AV), ([] : St))) y) (fun y => par_ret _)

def spec_TxnOk_g (args : List AV) (st : St) (k : K1) : Option Res :=
  onPats [.agg [.int .i64, .int .i64, .int .i64, .int .i64, .lst tRange, .lst tWrite, .bool, .str]] [] args st (fun p q => spec_TxnOk_k (p.1.1, (p.1.2.1, (p.1.2.2.1, (p.1.2.2.2.1, (p.1.2.2.2.2.1, (p.1.2.2.2.2.2.1, (p.1.2.2.2.2.2.2.1, p.1.2.2.2.2.2.2.2.1))))))) (fun (y : Bool) => k (.bool y) []))
    (none)

theorem spec_TxnOk_q (a0 : Int) (a1 : Int) (a2 : Int) (a3 : Int) (a4 : (List dRange)) (a5 : (List dWrite)) (a6 : Bool) (a7 : ByteArray) : Par (fun k : AV × St → Option Res => spec_TxnOk_g [.agg [.int .i64 a0, .int .i64 a1, .int .i64 a2, .int .i64 a3, .lst tRange a4, .lst tWrite a5, .bool a6, .str a7]] [] (fun v s => k (v, s))) :=
  (spec_TxnOk_p (a0, (a1, (a2, (a3, (a4, (a5, (a6, a7)))))))).bind (H := fun (y : Bool) (k : AV × St → Option Res) => (fun (y : Bool) => k ((.bool y : AV), ([] : St))) y) (fun y => par_ret _)

def spec_ReadTxn_g (args : List AV) (st : St) (k : K1) : Option Res :=
  onPats [.str, .int .i64] [] args st (fun p q => spec_ReadTxn_k p.1 p.2.1 (fun (y : (Int × Int × Int × Int × Bool × ByteArray × Int × Bool × (List dRange) × (List dWrite))) => k (.tup [.agg [.int .i64 y.1, .int .i64 y.2.1, .int .i64 y.2.2.1, .int .i64 y.2.2.2.1, .own 0, .own 1, .bool y.2.2.2.2.1, .str y.2.2.2.2.2.1], .int .i64 y.2.2.2.2.2.2.1, .bool y.2.2.2.2.2.2.2.1]) [.arr tRange y.2.2.2.2.2.2.2.2.1, .arr tWrite y.2.2.2.2.2.2.2.2.2]))
    (none)

theorem spec_ReadTxn_q (a0 : ByteArray) (a1 : Int) : Par (fun k : AV × St → Option Res => spec_ReadTxn_g [.str a0, .int .i64 a1] [] (fun v s => k (v, s))) :=
  (spec_ReadTxn_p a0 a1).bind (H := fun (y : (Int × Int × Int × Int × Bool × ByteArray × Int × Bool × (List dRange) × (List dWrite))) (k : AV × St → Option Res) => (fun (y : (Int × Int × Int × Int × Bool × ByteArray × Int × Bool × (List dRange) × (List dWrite))) => k ((.tup [.agg [.int .i64 y.1, .int .i64 y.2.1, .int .i64 y.2.2.1, .int .i64 y.2.2.2.1, .own 0, .own 1, .bool y.2.2.2.2.1, .str y.2.2.2.2.2.1], .int .i64 y.2.2.2.2.2.2.1, .bool y.2.2.2.2.2.2.2.1] : AV), ([.arr tRange y.2.2.2.2.2.2.2.2.1, .arr tWrite y.2.2.2.2.2.2.2.2.2] : St))) y) (fun y => par_ret _)

def impl_within_g (args : List AV) (st : St) (k : K1) : Option Res :=
  onPats [.int .i64, .int .i64, .int .i64] [] args st (fun p q => impl_within_k p.1 p.2.1 p.2.2.1 (fun (y : Bool) => k (.bool y) []))
    (none)

theorem impl_within_q (a0 : Int) (a1 : Int) (a2 : Int) : Par (fun k : AV × St → Option Res => impl_within_g [.int .i64 a0, .int .i64 a1, .int .i64 a2] [] (fun v s => k (v, s))) :=
  (impl_within_p a0 a1 a2).bind (H := fun (y : Bool) (k : AV × St → Option Res) => (fun (y : Bool) => k ((.bool y : AV), ([] : St))) y) (fun y => par_ret _)

def impl_VarText_g (args : List AV) (st : St) (k : K1) : Option Res :=
  onPats [.int .i64] [] args st (fun p q => impl_VarText_k p.1 (fun (y : (ByteArray × Bool)) => k (.tup [.str y.1, .bool y.2]) []))
    (none)

theorem impl_VarText_q (a0 : Int) : Par (fun k : AV × St → Option Res => impl_VarText_g [.int .i64 a0] [] (fun v s => k (v, s))) :=
  (impl_VarText_p a0).bind (H := fun (y : (ByteArray × Bool)) (k : AV × St → Option Res) => (fun (y : (ByteArray × Bool)) => k ((.tup [.str y.1, .bool y.2] : AV), ([] : St))) y) (fun y => par_ret _)

def impl_ReadVar_g (args : List AV) (st : St) (k : K1) : Option Res :=
  onPats [.str, .int .i64] [] args st (fun p q => impl_ReadVar_k p.1 p.2.1 (fun (y : (Int × Int × Bool)) => k (.tup [.int .i64 y.1, .int .i64 y.2.1, .bool y.2.2]) []))
    (none)

theorem impl_ReadVar_q (a0 : ByteArray) (a1 : Int) : Par (fun k : AV × St → Option Res => impl_ReadVar_g [.str a0, .int .i64 a1] [] (fun v s => k (v, s))) :=
  (impl_ReadVar_p a0 a1).bind (H := fun (y : (Int × Int × Bool)) (k : AV × St → Option Res) => (fun (y : (Int × Int × Bool)) => k ((.tup [.int .i64 y.1, .int .i64 y.2.1, .bool y.2.2] : AV), ([] : St))) y) (fun y => par_ret _)

def impl_reader_num_g (args : List AV) (st : St) (k : K1) : Option Res :=
  onPats [.bp 0 0] [.box [.str, .int .i64, .bool]] args st (fun p q => impl_reader_num_k q.1.1 q.1.2.1 q.1.2.2.1 (fun (y : (Int × ByteArray × Int × Bool)) => k (.int .i64 y.1) [.box [.str y.2.1, .int .i64 y.2.2.1, .bool y.2.2.2]]))
    (none)

theorem impl_reader_num_q (a0 : ByteArray) (a1 : Int) (a2 : Bool) : Par (fun k : AV × St → Option Res => impl_reader_num_g [.bp 0 0] [.box [.str a0, .int .i64 a1, .bool a2]] (fun v s => k (v, s))) :=
  (impl_reader_num_p a0 a1 a2).bind (H := fun (y : (Int × ByteArray × Int × Bool)) (k : AV × St → Option Res) => (fun (y : (Int × ByteArray × Int × Bool)) => k ((.int .i64 y.1 : AV), ([.box [.str y.2.1, .int .i64 y.2.2.1, .bool y.2.2.2]] : St))) y) (fun y => par_ret _)

def impl_ReadShort_g (args : List AV) (st : St) (k : K1) : Option Res :=
  onPats [.str, .int .i64] [] args st (fun p q => impl_ReadShort_k p.1 p.2.1 (fun (y : (ByteArray × Int × Bool)) => k (.tup [.str y.1, .int .i64 y.2.1, .bool y.2.2]) []))
    (none)

theorem impl_ReadShort_q (a0 : ByteArray) (a1 : Int) : Par (fun k : AV × St → Option Res => impl_ReadShort_g [.str a0, .int .i64 a1] [] (fun v s => k (v, s))) :=
  (impl_ReadShort_p a0 a1).bind (H := fun (y : (ByteArray × Int × Bool)) (k : AV × St → Option Res) => (fun (y : (ByteArray × Int × Bool)) => k ((.tup [.str y.1, .int .i64 y.2.1, .bool y.2.2] : AV), ([] : St))) y) (fun y => par_ret _)

def impl_reader_text_g (args : List AV) (st : St) (k : K1) : Option Res :=
  onPats [.bp 0 0] [.box [.str, .int .i64, .bool]] args st (fun p q => impl_reader_text_k q.1.1 q.1.2.1 q.1.2.2.1 (fun (y : (ByteArray × ByteArray × Int × Bool)) => k (.str y.1) [.box [.str y.2.1, .int .i64 y.2.2.1, .bool y.2.2.2]]))
    (none)

theorem impl_reader_text_q (a0 : ByteArray) (a1 : Int) (a2 : Bool) : Par (fun k : AV × St → Option Res => impl_reader_text_g [.bp 0 0] [.box [.str a0, .int .i64 a1, .bool a2]] (fun v s => k (v, s))) :=
  (impl_reader_text_p a0 a1 a2).bind (H := fun (y : (ByteArray × ByteArray × Int × Bool)) (k : AV × St → Option Res) => (fun (y : (ByteArray × ByteArray × Int × Bool)) => k ((.str y.1 : AV), ([.box [.str y.2.1, .int .i64 y.2.2.1, .bool y.2.2.2]] : St))) y) (fun y => par_ret _)

def impl_reader_txn_1_g (args : List AV) (st : St) (k : K1) : Option Res :=
  onPats [.bp 0 0, .bp 1 0] [.box [.int .i64, .int .i64, .int .i64, .int .i64, .nilS, .nilS, .bool, .str], .box [.bp 2 0], .box [.str, .int .i64, .bool]] args st (fun p q => impl_reader_txn_1_k q.1.1 q.1.2.1 q.1.2.2.1 q.1.2.2.2.1 q.1.2.2.2.2.2.2.1 q.1.2.2.2.2.2.2.2.1 q.2.2.1.1 q.2.2.1.2.1 q.2.2.1.2.2.1 (fun (y : (Int × Int × Int × Int × Bool × ByteArray × ByteArray × Int × Bool × (List dRange))) => k (.tup []) [.box [.int .i64 y.1, .int .i64 y.2.1, .int .i64 y.2.2.1, .int .i64 y.2.2.2.1, .own 3, .nilS, .bool y.2.2.2.2.1, .str y.2.2.2.2.2.1], .box [.bp 2 0], .box [.str y.2.2.2.2.2.2.1, .int .i64 y.2.2.2.2.2.2.2.1, .bool y.2.2.2.2.2.2.2.2.1], .arr tRange y.2.2.2.2.2.2.2.2.2]))
    (onPats [.bp 0 0, .bp 1 0] [.box [.int .i64, .int .i64, .int .i64, .int .i64, .own 2, .nilS, .bool, .str], .box [.bp 3 0], .arr tRange, .box [.str, .int .i64, .bool]] args st (fun p q => impl_reader_txn_1_7316_k q.1.1 q.1.2.1 q.1.2.2.1 q.1.2.2.2.1 q.1.2.2.2.2.2.2.1 q.1.2.2.2.2.2.2.2.1 q.2.2.1 q.2.2.2.1.1 q.2.2.2.1.2.1 q.2.2.2.1.2.2.1 (fun (y : (Int × Int × Int × Int × Bool × ByteArray × ByteArray × Int × Bool × (List dRange))) => k (.tup []) [.box [.int .i64 y.1, .int .i64 y.2.1, .int .i64 y.2.2.1, .int .i64 y.2.2.2.1, .own 4, .nilS, .bool y.2.2.2.2.1, .str y.2.2.2.2.2.1], .box [.bp 3 0], .gone, .box [.str y.2.2.2.2.2.2.1, .int .i64 y.2.2.2.2.2.2.2.1, .bool y.2.2.2.2.2.2.2.2.1], .arr tRange y.2.2.2.2.2.2.2.2.2]))
    (none))

theorem impl_reader_txn_1_q (a0 : Int) (a1 : Int) (a2 : Int) (a3 : Int) (a4 : Bool) (a5 : ByteArray) (a6 : ByteArray) (a7 : Int) (a8 : Bool) : Par (fun k : AV × St → Option Res => impl_reader_txn_1_g [.bp 0 0, .bp 1 0] [.box [.int .i64 a0, .int .i64 a1, .int .i64 a2, .int .i64 a3, .nilS, .nilS, .bool a4, .str a5], .box [.bp 2 0], .box [.str a6, .int .i64 a7, .bool a8]] (fun v s => k (v, s))) :=
  (impl_reader_txn_1_p a0 a1 a2 a3 a4 a5 a6 a7 a8).bind (H := fun (y : (Int × Int × Int × Int × Bool × ByteArray × ByteArray × Int × Bool × (List dRange))) (k : AV × St → Option Res) => (fun (y : (Int × Int × Int × Int × Bool × ByteArray × ByteArray × Int × Bool × (List dRange))) => k ((.tup [] : AV), ([.box [.int .i64 y.1, .int .i64 y.2.1, .int .i64 y.2.2.1, .int .i64 y.2.2.2.1, .own 3, .nilS, .bool y.2.2.2.2.1, .str y.2.2.2.2.2.1], .box [.bp 2 0], .box [.str y.2.2.2.2.2.2.1, .int .i64 y.2.2.2.2.2.2.2.1, .bool y.2.2.2.2.2.2.2.2.1], .arr tRange y.2.2.2.2.2.2.2.2.2] : St))) y) (fun y => par_ret _)

theorem impl_reader_txn_1_7316_q (a0 : Int) (a1 : Int) (a2 : Int) (a3 : Int) (a4 : Bool) (a5 : ByteArray) (a6 : (List dRange)) (a7 : ByteArray) (a8 : Int) (a9 : Bool) : Par (fun k : AV × St → Option Res => impl_reader_txn_1_g [.bp 0 0, .bp 1 0] [.box [.int .i64 a0, .int .i64 a1, .int .i64 a2, .int .i64 a3, .own 2, .nilS, .bool a4, .str a5], .box [.bp 3 0], .arr tRange a6, .box [.str a7, .int .i64 a8, .bool a9]] (fun v s => k (v, s))) :=
  (impl_reader_txn_1_7316_p a0 a1 a2 a3 a4 a5 a6 a7 a8 a9).bind (H := fun (y : (Int × Int × Int × Int × Bool × ByteArray × ByteArray × Int × Bool × (List dRange))) (k : AV × St → Option Res) => (fun (y : (Int × Int × Int × Int × Bool × ByteArray × ByteArray × Int × Bool × (List dRange))) => k ((.tup [] : AV), ([.box [.int .i64 y.1, .int .i64 y.2.1, .int .i64 y.2.2.1, .int .i64 y.2.2.2.1, .own 4, .nilS, .bool y.2.2.2.2.1, .str y.2.2.2.2.2.1], .box [.bp 3 0], .gone, .box [.str y.2.2.2.2.2.2.1, .int .i64 y.2.2.2.2.2.2.2.1, .bool y.2.2.2.2.2.2.2.2.1], .arr tRange y.2.2.2.2.2.2.2.2.2] : St))) y) (fun y => par_ret _)

def impl_reader_flag_g (args : List AV) (st : St) (k : K1) : Option Res :=
  onPats [.bp 0 0] [.box [.str, .int .i64, .bool]] args st (fun p q => impl_reader_flag_k q.1.1 q.1.2.1 q.1.2.2.1 (fun (y : (Bool × ByteArray × Int × Bool)) => k (.bool y.1) [.box [.str y.2.1, .int .i64 y.2.2.1, .bool y.2.2.2]]))
    (none)

theorem impl_reader_flag_q (a0 : ByteArray) (a1 : Int) (a2 : Bool) : Par (fun k : AV × St → Option Res => impl_reader_flag_g [.bp 0 0] [.box [.str a0, .int .i64 a1, .bool a2]] (fun v s => k (v, s))) :=
  (impl_reader_flag_p a0 a1 a2).bind (H := fun (y : (Bool × ByteArray × Int × Bool)) (k : AV × St → Option Res) => (fun (y : (Bool × ByteArray × Int × Bool)) => k ((.bool y.1 : AV), ([.box [.str y.2.1, .int .i64 y.2.2.1, .bool y.2.2.2]] : St))) y) (fun y => par_ret _)

def impl_reader_txn_2_g (args : List AV) (st : St) (k : K1) : Option Res :=
  onPats [.bp 0 0, .bp 1 0] [.box [.bp 2 0], .box [.int .i64, .int .i64, .int .i64, .int .i64, .own 3, .nilS, .bool, .str], .box [.str, .int .i64, .bool], .arr tRange] args st (fun p q => impl_reader_txn_2_k q.2.1.1 q.2.1.2.1 q.2.1.2.2.1 q.2.1.2.2.2.1 q.2.1.2.2.2.2.2.2.1 q.2.1.2.2.2.2.2.2.2.1 q.2.2.1.1 q.2.2.1.2.1 q.2.2.1.2.2.1 q.2.2.2.1 (fun (y : (Int × Int × Int × Int × Bool × ByteArray × ByteArray × Int × Bool × (List dRange) × (List dWrite))) => k (.tup []) [.box [.bp 2 0], .box [.int .i64 y.1, .int .i64 y.2.1, .int .i64 y.2.2.1, .int .i64 y.2.2.2.1, .own 3, .own 4, .bool y.2.2.2.2.1, .str y.2.2.2.2.2.1], .box [.str y.2.2.2.2.2.2.1, .int .i64 y.2.2.2.2.2.2.2.1, .bool y.2.2.2.2.2.2.2.2.1], .arr tRange y.2.2.2.2.2.2.2.2.2.1, .arr tWrite y.2.2.2.2.2.2.2.2.2.2]))
    (onPats [.bp 0 0, .bp 1 0] [.box [.bp 2 0], .box [.int .i64, .int .i64, .int .i64, .int .i64, .own 3, .own 4, .bool, .str], .box [.str, .int .i64, .bool], .arr tRange, .arr tWrite] args st (fun p q => impl_reader_txn_2_fd82_k q.2.1.1 q.2.1.2.1 q.2.1.2.2.1 q.2.1.2.2.2.1 q.2.1.2.2.2.2.2.2.1 q.2.1.2.2.2.2.2.2.2.1 q.2.2.1.1 q.2.2.1.2.1 q.2.2.1.2.2.1 q.2.2.2.1 q.2.2.2.2.1 (fun (y : (Int × Int × Int × Int × Bool × ByteArray × ByteArray × Int × Bool × (List dRange) × (List dWrite))) => k (.tup []) [.box [.bp 2 0], .box [.int .i64 y.1, .int .i64 y.2.1, .int .i64 y.2.2.1, .int .i64 y.2.2.2.1, .own 3, .own 5, .bool y.2.2.2.2.1, .str y.2.2.2.2.2.1], .box [.str y.2.2.2.2.2.2.1, .int .i64 y.2.2.2.2.2.2.2.1, .bool y.2.2.2.2.2.2.2.2.1], .arr tRange y.2.2.2.2.2.2.2.2.2.1, .gone, .arr tWrite y.2.2.2.2.2.2.2.2.2.2]))
    (none))

theorem impl_reader_txn_2_q (a0 : Int) (a1 : Int) (a2 : Int) (a3 : Int) (a4 : Bool) (a5 : ByteArray) (a6 : ByteArray) (a7 : Int) (a8 : Bool) (a9 : (List dRange)) : Par (fun k : AV × St → Option Res => impl_reader_txn_2_g [.bp 0 0, .bp 1 0] [.box [.bp 2 0], .box [.int .i64 a0, .int .i64 a1, .int .i64 a2, .int .i64 a3, .own 3, .nilS, .bool a4, .str a5], .box [.str a6, .int .i64 a7, .bool a8], .arr tRange a9] (fun v s => k (v, s))) :=
  (impl_reader_txn_2_p a0 a1 a2 a3 a4 a5 a6 a7 a8 a9).bind (H := fun (y : (Int × Int × Int × Int × Bool × ByteArray × ByteArray × Int × Bool × (List dRange) × (List dWrite))) (k : AV × St → Option Res) => (fun (y : (Int × Int × Int × Int × Bool × ByteArray × ByteArray × Int × Bool × (List dRange) × (List dWrite))) => k ((.tup [] : AV), ([.box [.bp 2 0], .box [.int .i64 y.1, .int .i64 y.2.1, .int .i64 y.2.2.1, .int .i64 y.2.2.2.1, .own 3, .own 4, .bool y.2.2.2.2.1, .str y.2.2.2.2.2.1], .box [.str y.2.2.2.2.2.2.1, .int .i64 y.2.2.2.2.2.2.2.1, .bool y.2.2.2.2.2.2.2.2.1], .arr tRange y.2.2.2.2.2.2.2.2.2.1, .arr tWrite y.2.2.2.2.2.2.2.2.2.2] : St))) y) (fun y => par_ret _)

theorem impl_reader_txn_2_fd82_q (a0 : Int) (a1 : Int) (a2 : Int) (a3 : Int) (a4 : Bool) (a5 : ByteArray) (a6 : ByteArray) (a7 : Int) (a8 : Bool) (a9 : (List dRange)) (a10 : (List dWrite)) : Par (fun k : AV × St → Option Res => impl_reader_txn_2_g [.bp 0 0, .bp 1 0] [.box [.bp 2 0], .box [.int .i64 a0, .int .i64 a1, .int .i64 a2, .int .i64 a3, .own 3, .own 4, .bool a4, .str a5], .box [.str a6, .int .i64 a7, .bool a8], .arr tRange a9, .arr tWrite a10] (fun v s => k (v, s))) :=
  (impl_reader_txn_2_fd82_p a0 a1 a2 a3 a4 a5 a6 a7 a8 a9 a10).bind (H := fun (y : (Int × Int × Int × Int × Bool × ByteArray × ByteArray × Int × Bool × (List dRange) × (List dWrite))) (k : AV × St → Option Res) => (fun (y : (Int × Int × Int × Int × Bool × ByteArray × ByteArray × Int × Bool × (List dRange) × (List dWrite))) => k ((.tup [] : AV), ([.box [.bp 2 0], .box [.int .i64 y.1, .int .i64 y.2.1, .int .i64 y.2.2.1, .int .i64 y.2.2.2.1, .own 3, .own 5, .bool y.2.2.2.2.1, .str y.2.2.2.2.2.1], .box [.str y.2.2.2.2.2.2.1, .int .i64 y.2.2.2.2.2.2.2.1, .bool y.2.2.2.2.2.2.2.2.1], .arr tRange y.2.2.2.2.2.2.2.2.2.1, .gone, .arr tWrite y.2.2.2.2.2.2.2.2.2.2] : St))) y) (fun y => par_ret _)

def impl_reader_each_g (args : List AV) (st : St) (k : K1) : Option Res :=
  onPats [.bp 0 0, .fn 193 [.bp 1 0, .bp 2 0]] [.box [.str, .int .i64, .bool], .box [.int .i64, .int .i64, .int .i64, .int .i64, .nilS, .nilS, .bool, .str], .box [.bp 0 0]] args st (fun p q => impl_reader_each_reader_txn_1_k q.1.1 q.1.2.1 q.1.2.2.1 q.2.1.1 q.2.1.2.1 q.2.1.2.2.1 q.2.1.2.2.2.1 q.2.1.2.2.2.2.2.2.1 q.2.1.2.2.2.2.2.2.2.1 (fun (y : (ByteArray × Int × Bool × Int × Int × Int × Int × Bool × ByteArray × (List dRange))) => k (.tup []) [.box [.str y.1, .int .i64 y.2.1, .bool y.2.2.1], .box [.int .i64 y.2.2.2.1, .int .i64 y.2.2.2.2.1, .int .i64 y.2.2.2.2.2.1, .int .i64 y.2.2.2.2.2.2.1, .own 3, .nilS, .bool y.2.2.2.2.2.2.2.1, .str y.2.2.2.2.2.2.2.2.1], .box [.bp 0 0], .arr tRange y.2.2.2.2.2.2.2.2.2]))
    (onPats [.bp 0 0, .fn 195 [.bp 1 0, .bp 2 0]] [.box [.str, .int .i64, .bool], .box [.bp 0 0], .box [.int .i64, .int .i64, .int .i64, .int .i64, .own 3, .nilS, .bool, .str], .arr tRange] args st (fun p q => impl_reader_each_reader_txn_2_k q.1.1 q.1.2.1 q.1.2.2.1 q.2.2.1.1 q.2.2.1.2.1 q.2.2.1.2.2.1 q.2.2.1.2.2.2.1 q.2.2.1.2.2.2.2.2.2.1 q.2.2.1.2.2.2.2.2.2.2.1 q.2.2.2.1 (fun (y : (ByteArray × Int × Bool × Int × Int × Int × Int × Bool × ByteArray × (List dRange) × (List dWrite))) => k (.tup []) [.box [.str y.1, .int .i64 y.2.1, .bool y.2.2.1], .box [.bp 0 0], .box [.int .i64 y.2.2.2.1, .int .i64 y.2.2.2.2.1, .int .i64 y.2.2.2.2.2.1, .int .i64 y.2.2.2.2.2.2.1, .own 3, .own 4, .bool y.2.2.2.2.2.2.2.1, .str y.2.2.2.2.2.2.2.2.1], .arr tRange y.2.2.2.2.2.2.2.2.2.1, .arr tWrite y.2.2.2.2.2.2.2.2.2.2]))
    (none))

theorem impl_reader_each_reader_txn_1_q (a0 : ByteArray) (a1 : Int) (a2 : Bool) (a3 : Int) (a4 : Int) (a5 : Int) (a6 : Int) (a7 : Bool) (a8 : ByteArray) : Par (fun k : AV × St → Option Res => impl_reader_each_g [.bp 0 0, .fn 193 [.bp 1 0, .bp 2 0]] [.box [.str a0, .int .i64 a1, .bool a2], .box [.int .i64 a3, .int .i64 a4, .int .i64 a5, .int .i64 a6, .nilS, .nilS, .bool a7, .str a8], .box [.bp 0 0]] (fun v s => k (v, s))) :=
  (impl_reader_each_reader_txn_1_p a0 a1 a2 a3 a4 a5 a6 a7 a8).bind (H := fun (y : (ByteArray × Int × Bool × Int × Int × Int × Int × Bool × ByteArray × (List dRange))) (k : AV × St → Option Res) => (fun (y : (ByteArray × Int × Bool × Int × Int × Int × Int × Bool × ByteArray × (List dRange))) => k ((.tup [] : AV), ([.box [.str y.1, .int .i64 y.2.1, .bool y.2.2.1], .box [.int .i64 y.2.2.2.1, .int .i64 y.2.2.2.2.1, .int .i64 y.2.2.2.2.2.1, .int .i64 y.2.2.2.2.2.2.1, .own 3, .nilS, .bool y.2.2.2.2.2.2.2.1, .str y.2.2.2.2.2.2.2.2.1], .box [.bp 0 0], .arr tRange y.2.2.2.2.2.2.2.2.2] : St))) y) (fun y => par_ret _)

theorem impl_reader_each_reader_txn_2_q (a0 : ByteArray) (a1 : Int) (a2 : Bool) (a3 : Int) (a4 : Int) (a5 : Int) (a6 : Int) (a7 : Bool) (a8 : ByteArray) (a9 : (List dRange)) : Par (fun k : AV × St → Option Res => impl_reader_each_g [.bp 0 0, .fn 195 [.bp 1 0, .bp 2 0]] [.box [.str a0, .int .i64 a1, .bool a2], .box [.bp 0 0], .box [.int .i64 a3, .int .i64 a4, .int .i64 a5, .int .i64 a6, .own 3, .nilS, .bool a7, .str a8], .arr tRange a9] (fun v s => k (v, s))) :=
  (impl_reader_each_reader_txn_2_p a0 a1 a2 a3 a4 a5 a6 a7 a8 a9).bind (H := fun (y : (ByteArray × Int × Bool × Int × Int × Int × Int × Bool × ByteArray × (List dRange) × (List dWrite))) (k : AV × St → Option Res) => (fun (y : (ByteArray × Int × Bool × Int × Int × Int × Int × Bool × ByteArray × (List dRange) × (List dWrite))) => k ((.tup [] : AV), ([.box [.str y.1, .int .i64 y.2.1, .bool y.2.2.1], .box [.bp 0 0], .box [.int .i64 y.2.2.2.1, .int .i64 y.2.2.2.2.1, .int .i64 y.2.2.2.2.2.1, .int .i64 y.2.2.2.2.2.2.1, .own 3, .own 4, .bool y.2.2.2.2.2.2.2.1, .str y.2.2.2.2.2.2.2.2.1], .arr tRange y.2.2.2.2.2.2.2.2.2.1, .arr tWrite y.2.2.2.2.2.2.2.2.2.2] : St))) y) (fun y => par_ret _)

def impl_KeyOk_g (args : List AV) (st : St) (k : K1) : Option Res :=
  onPats [.str] [] args st (fun p q => impl_KeyOk_k p.1 (fun (y : Bool) => k (.bool y) []))
    (none)

theorem impl_KeyOk_q (a0 : ByteArray) : Par (fun k : AV × St → Option Res => impl_KeyOk_g [.str a0] [] (fun v s => k (v, s))) :=
  (impl_KeyOk_p a0).bind (H := fun (y : Bool) (k : AV × St → Option Res) => (fun (y : Bool) => k ((.bool y : AV), ([] : St))) y) (fun y => par_ret _)

def impl_RangeOk_g (args : List AV) (st : St) (k : K1) : Option Res :=
  onPats [.agg [.str, .str]] [] args st (fun p q => impl_RangeOk_k (p.1.1, p.1.2.1) (fun (y : Bool) => k (.bool y) []))
    (none)

theorem impl_RangeOk_q (a0 : ByteArray) (a1 : ByteArray) : Par (fun k : AV × St → Option Res => impl_RangeOk_g [.agg [.str a0, .str a1]] [] (fun v s => k (v, s))) :=
  (impl_RangeOk_p (a0, a1)).bind (H := fun (y : Bool) (k : AV × St → Option Res) => (fun (y : Bool) => k ((.bool y : AV), ([] : St))) y) (fun y => par_ret _)

def impl_WriteOk_g (args : List AV) (st : St) (k : K1) : Option Res :=
  onPats [.agg [.str, .str, .bool]] [] args st (fun p q => impl_WriteOk_k (p.1.1, (p.1.2.1, p.1.2.2.1)) (fun (y : Bool) => k (.bool y) []))
    (none)

theorem impl_WriteOk_q (a0 : ByteArray) (a1 : ByteArray) (a2 : Bool) : Par (fun k : AV × St → Option Res => impl_WriteOk_g [.agg [.str a0, .str a1, .bool a2]] [] (fun v s => k (v, s))) :=
  (impl_WriteOk_p (a0, (a1, a2))).bind (H := fun (y : Bool) (k : AV × St → Option Res) => (fun (y : Bool) => k ((.bool y : AV), ([] : St))) y) (fun y => par_ret _)

def impl_WritesOk_g (args : List AV) (st : St) (k : K1) : Option Res :=
  onPats [.lst tWrite] [] args st (fun p q => impl_WritesOk_k p.1 (fun (y : Bool) => k (.bool y) []))
    (none)

theorem impl_WritesOk_q (a0 : (List dWrite)) : Par (fun k : AV × St → Option Res => impl_WritesOk_g [.lst tWrite a0] [] (fun v s => k (v, s))) :=
  (impl_WritesOk_p a0).bind (H := fun (y : Bool) (k : AV × St → Option Res) => (fun (y : Bool) => k ((.bool y : AV), ([] : St))) y) (fun y => par_ret _)

def impl_TxnOk_g (args : List AV) (st : St) (k : K1) : Option Res :=
  onPats [.agg [.int .i64, .int .i64, .int .i64, .int .i64, .lst tRange, .lst tWrite, .bool, .str]] [] args st (fun p q => impl_TxnOk_k (p.1.1, (p.1.2.1, (p.1.2.2.1, (p.1.2.2.2.1, (p.1.2.2.2.2.1, (p.1.2.2.2.2.2.1, (p.1.2.2.2.2.2.2.1, p.1.2.2.2.2.2.2.2.1))))))) (fun (y : Bool) => k (.bool y) []))
    (none)

theorem impl_TxnOk_q (a0 : Int) (a1 : Int) (a2 : Int) (a3 : Int) (a4 : (List dRange)) (a5 : (List dWrite)) (a6 : Bool) (a7 : ByteArray) : Par (fun k : AV × St → Option Res => impl_TxnOk_g [.agg [.int .i64 a0, .int .i64 a1, .int .i64 a2, .int .i64 a3, .lst tRange a4, .lst tWrite a5, .bool a6, .str a7]] [] (fun v s => k (v, s))) :=
  (impl_TxnOk_p (a0, (a1, (a2, (a3, (a4, (a5, (a6, a7)))))))).bind (H := fun (y : Bool) (k : AV × St → Option Res) => (fun (y : Bool) => k ((.bool y : AV), ([] : St))) y) (fun y => par_ret _)

def impl_reader_txn_g (args : List AV) (st : St) (k : K1) : Option Res :=
  onPats [.bp 0 0] [.box [.str, .int .i64, .bool]] args st (fun p q => impl_reader_txn_k q.1.1 q.1.2.1 q.1.2.2.1 (fun (y : (Int × Int × Int × Int × Bool × ByteArray × ByteArray × Int × Bool × (List dRange) × (List dWrite))) => k (.agg [.int .i64 y.1, .int .i64 y.2.1, .int .i64 y.2.2.1, .int .i64 y.2.2.2.1, .own 1, .own 2, .bool y.2.2.2.2.1, .str y.2.2.2.2.2.1]) [.box [.str y.2.2.2.2.2.2.1, .int .i64 y.2.2.2.2.2.2.2.1, .bool y.2.2.2.2.2.2.2.2.1], .arr tRange y.2.2.2.2.2.2.2.2.2.1, .arr tWrite y.2.2.2.2.2.2.2.2.2.2]))
    (none)

theorem impl_reader_txn_q (a0 : ByteArray) (a1 : Int) (a2 : Bool) : Par (fun k : AV × St → Option Res => impl_reader_txn_g [.bp 0 0] [.box [.str a0, .int .i64 a1, .bool a2]] (fun v s => k (v, s))) :=
  (impl_reader_txn_p a0 a1 a2).bind (H := fun (y : (Int × Int × Int × Int × Bool × ByteArray × ByteArray × Int × Bool × (List dRange) × (List dWrite))) (k : AV × St → Option Res) => (fun (y : (Int × Int × Int × Int × Bool × ByteArray × ByteArray × Int × Bool × (List dRange) × (List dWrite))) => k ((.agg [.int .i64 y.1, .int .i64 y.2.1, .int .i64 y.2.2.1, .int .i64 y.2.2.2.1, .own 1, .own 2, .bool y.2.2.2.2.1, .str y.2.2.2.2.2.1] : AV), ([.box [.str y.2.2.2.2.2.2.1, .int .i64 y.2.2.2.2.2.2.2.1, .bool y.2.2.2.2.2.2.2.2.1], .arr tRange y.2.2.2.2.2.2.2.2.2.1, .arr tWrite y.2.2.2.2.2.2.2.2.2.2] : St))) y) (fun y => par_ret _)

def impl_ReadTxn_g (args : List AV) (st : St) (k : K1) : Option Res :=
  onPats [.str, .int .i64] [] args st (fun p q => impl_ReadTxn_k p.1 p.2.1 (fun (y : (Int × Int × Int × Int × Bool × ByteArray × Int × Bool × (List dRange) × (List dWrite))) => k (.tup [.agg [.int .i64 y.1, .int .i64 y.2.1, .int .i64 y.2.2.1, .int .i64 y.2.2.2.1, .own 0, .own 1, .bool y.2.2.2.2.1, .str y.2.2.2.2.2.1], .int .i64 y.2.2.2.2.2.2.1, .bool y.2.2.2.2.2.2.2.1]) [.arr tRange y.2.2.2.2.2.2.2.2.1, .arr tWrite y.2.2.2.2.2.2.2.2.2]))
    (none)

theorem impl_ReadTxn_q (a0 : ByteArray) (a1 : Int) : Par (fun k : AV × St → Option Res => impl_ReadTxn_g [.str a0, .int .i64 a1] [] (fun v s => k (v, s))) :=
  (impl_ReadTxn_p a0 a1).bind (H := fun (y : (Int × Int × Int × Int × Bool × ByteArray × Int × Bool × (List dRange) × (List dWrite))) (k : AV × St → Option Res) => (fun (y : (Int × Int × Int × Int × Bool × ByteArray × Int × Bool × (List dRange) × (List dWrite))) => k ((.tup [.agg [.int .i64 y.1, .int .i64 y.2.1, .int .i64 y.2.2.1, .int .i64 y.2.2.2.1, .own 0, .own 1, .bool y.2.2.2.2.1, .str y.2.2.2.2.2.1], .int .i64 y.2.2.2.2.2.2.1, .bool y.2.2.2.2.2.2.2.1] : AV), ([.arr tRange y.2.2.2.2.2.2.2.2.1, .arr tWrite y.2.2.2.2.2.2.2.2.2] : St))) y) (fun y => par_ret _)

def laws_eqRange_g (args : List AV) (st : St) (k : K1) : Option Res :=
  onPats [.agg [.str, .str], .agg [.str, .str]] [] args st (fun p q => laws_eqRange_k (p.1.1, p.1.2.1) (p.2.1.1, p.2.1.2.1) (fun (y : Bool) => k (.bool y) []))
    (none)

theorem laws_eqRange_q (a0 : ByteArray) (a1 : ByteArray) (a2 : ByteArray) (a3 : ByteArray) : Par (fun k : AV × St → Option Res => laws_eqRange_g [.agg [.str a0, .str a1], .agg [.str a2, .str a3]] [] (fun v s => k (v, s))) :=
  (laws_eqRange_p (a0, a1) (a2, a3)).bind (H := fun (y : Bool) (k : AV × St → Option Res) => (fun (y : Bool) => k ((.bool y : AV), ([] : St))) y) (fun y => par_ret _)

def laws_eqRangeS_g (args : List AV) (st : St) (k : K1) : Option Res :=
  onPats [.lst tRange, .lst tRange] [] args st (fun p q => laws_eqRangeS_k p.1 p.2.1 (fun (y : Bool) => k (.bool y) []))
    (none)

theorem laws_eqRangeS_q (a0 : (List dRange)) (a1 : (List dRange)) : Par (fun k : AV × St → Option Res => laws_eqRangeS_g [.lst tRange a0, .lst tRange a1] [] (fun v s => k (v, s))) :=
  (laws_eqRangeS_p a0 a1).bind (H := fun (y : Bool) (k : AV × St → Option Res) => (fun (y : Bool) => k ((.bool y : AV), ([] : St))) y) (fun y => par_ret _)

def laws_eqWrite_g (args : List AV) (st : St) (k : K1) : Option Res :=
  onPats [.agg [.str, .str, .bool], .agg [.str, .str, .bool]] [] args st (fun p q => laws_eqWrite_k (p.1.1, (p.1.2.1, p.1.2.2.1)) (p.2.1.1, (p.2.1.2.1, p.2.1.2.2.1)) (fun (y : Bool) => k (.bool y) []))
    (none)

theorem laws_eqWrite_q (a0 : ByteArray) (a1 : ByteArray) (a2 : Bool) (a3 : ByteArray) (a4 : ByteArray) (a5 : Bool) : Par (fun k : AV × St → Option Res => laws_eqWrite_g [.agg [.str a0, .str a1, .bool a2], .agg [.str a3, .str a4, .bool a5]] [] (fun v s => k (v, s))) :=
  (laws_eqWrite_p (a0, (a1, a2)) (a3, (a4, a5))).bind (H := fun (y : Bool) (k : AV × St → Option Res) => (fun (y : Bool) => k ((.bool y : AV), ([] : St))) y) (fun y => par_ret _)

def laws_eqWriteS_g (args : List AV) (st : St) (k : K1) : Option Res :=
  onPats [.lst tWrite, .lst tWrite] [] args st (fun p q => laws_eqWriteS_k p.1 p.2.1 (fun (y : Bool) => k (.bool y) []))
    (none)

theorem laws_eqWriteS_q (a0 : (List dWrite)) (a1 : (List dWrite)) : Par (fun k : AV × St → Option Res => laws_eqWriteS_g [.lst tWrite a0, .lst tWrite a1] [] (fun v s => k (v, s))) :=
  (laws_eqWriteS_p a0 a1).bind (H := fun (y : Bool) (k : AV × St → Option Res) => (fun (y : Bool) => k ((.bool y : AV), ([] : St))) y) (fun y => par_ret _)

def laws_eqTxn_g (args : List AV) (st : St) (k : K1) : Option Res :=
  onPats [.agg [.int .i64, .int .i64, .int .i64, .int .i64, .lst tRange, .lst tWrite, .bool, .str], .agg [.int .i64, .int .i64, .int .i64, .int .i64, .lst tRange, .lst tWrite, .bool, .str]] [] args st (fun p q => laws_eqTxn_k (p.1.1, (p.1.2.1, (p.1.2.2.1, (p.1.2.2.2.1, (p.1.2.2.2.2.1, (p.1.2.2.2.2.2.1, (p.1.2.2.2.2.2.2.1, p.1.2.2.2.2.2.2.2.1))))))) (p.2.1.1, (p.2.1.2.1, (p.2.1.2.2.1, (p.2.1.2.2.2.1, (p.2.1.2.2.2.2.1, (p.2.1.2.2.2.2.2.1, (p.2.1.2.2.2.2.2.2.1, p.2.1.2.2.2.2.2.2.2.1))))))) (fun (y : Bool) => k (.bool y) []))
    (none)

theorem laws_eqTxn_q (a0 : Int) (a1 : Int) (a2 : Int) (a3 : Int) (a4 : (List dRange)) (a5 : (List dWrite)) (a6 : Bool) (a7 : ByteArray) (a8 : Int) (a9 : Int) (a10 : Int) (a11 : Int) (a12 : (List dRange)) (a13 : (List dWrite)) (a14 : Bool) (a15 : ByteArray) : Par (fun k : AV × St → Option Res => laws_eqTxn_g [.agg [.int .i64 a0, .int .i64 a1, .int .i64 a2, .int .i64 a3, .lst tRange a4, .lst tWrite a5, .bool a6, .str a7], .agg [.int .i64 a8, .int .i64 a9, .int .i64 a10, .int .i64 a11, .lst tRange a12, .lst tWrite a13, .bool a14, .str a15]] [] (fun v s => k (v, s))) :=
  (laws_eqTxn_p (a0, (a1, (a2, (a3, (a4, (a5, (a6, a7))))))) (a8, (a9, (a10, (a11, (a12, (a13, (a14, a15)))))))).bind (H := fun (y : Bool) (k : AV × St → Option Res) => (fun (y : Bool) => k ((.bool y : AV), ([] : St))) y) (fun y => par_ret _)

def laws_markText_g (args : List AV) (st : St) (k : K1) : Option Res :=
  onPats [.int .i64] [] args st (fun p q => laws_markText_k p.1 (fun (y : ByteArray) => k (.str y) []))
    (none)

theorem laws_markText_q (a0 : Int) : Par (fun k : AV × St → Option Res => laws_markText_g [.int .i64 a0] [] (fun v s => k (v, s))) :=
  (laws_markText_p a0).bind (H := fun (y : ByteArray) (k : AV × St → Option Res) => (fun (y : ByteArray) => k ((.str y : AV), ([] : St))) y) (fun y => par_ret _)

def laws_markRangeS_g (args : List AV) (st : St) (k : K1) : Option Res :=
  onPats [.own 0, .int .i64] [.arr tRange] args st (fun p q => laws_markRangeS_vo_k p.2.1 q.1 (fun (y : (Int × (List dRange))) => k (.int .i64 y.1) [.arr tRange y.2]))
    (none)

theorem laws_markRangeS_vo_q (a0 : Int) (a1 : (List dRange)) : Par (fun k : AV × St → Option Res => laws_markRangeS_g [.own 0, .int .i64 a0] [.arr tRange a1] (fun v s => k (v, s))) :=
  (laws_markRangeS_vo_p a0 a1).bind (H := fun (y : (Int × (List dRange))) (k : AV × St → Option Res) => (fun (y : (Int × (List dRange))) => k ((.int .i64 y.1 : AV), ([.arr tRange y.2] : St))) y) (fun y => par_ret _)

def laws_markWriteS_g (args : List AV) (st : St) (k : K1) : Option Res :=
  onPats [.own 0, .int .i64] [.arr tWrite] args st (fun p q => laws_markWriteS_vo_k p.2.1 q.1 (fun (y : (Int × (List dWrite))) => k (.int .i64 y.1) [.arr tWrite y.2]))
    (none)

theorem laws_markWriteS_vo_q (a0 : Int) (a1 : (List dWrite)) : Par (fun k : AV × St → Option Res => laws_markWriteS_g [.own 0, .int .i64 a0] [.arr tWrite a1] (fun v s => k (v, s))) :=
  (laws_markWriteS_vo_p a0 a1).bind (H := fun (y : (Int × (List dWrite))) (k : AV × St → Option Res) => (fun (y : (Int × (List dWrite))) => k ((.int .i64 y.1 : AV), ([.arr tWrite y.2] : St))) y) (fun y => par_ret _)

def laws_markTxn_g (args : List AV) (st : St) (k : K1) : Option Res :=
  onPats [.agg [.int .i64, .int .i64, .int .i64, .int .i64, .own 0, .own 1, .bool, .str], .int .i64] [.arr tRange, .arr tWrite] args st (fun p q => laws_markTxn_va_k p.1.1 p.1.2.1 p.1.2.2.1 p.1.2.2.2.1 p.1.2.2.2.2.2.2.1 p.1.2.2.2.2.2.2.2.1 p.2.1 q.1 q.2.1 (fun (y : (Int × (List dRange) × (List dWrite))) => k (.int .i64 y.1) [.arr tRange y.2.1, .arr tWrite y.2.2]))
    (none)

theorem laws_markTxn_va_q (a0 : Int) (a1 : Int) (a2 : Int) (a3 : Int) (a4 : Bool) (a5 : ByteArray) (a6 : Int) (a7 : (List dRange)) (a8 : (List dWrite)) : Par (fun k : AV × St → Option Res => laws_markTxn_g [.agg [.int .i64 a0, .int .i64 a1, .int .i64 a2, .int .i64 a3, .own 0, .own 1, .bool a4, .str a5], .int .i64 a6] [.arr tRange a7, .arr tWrite a8] (fun v s => k (v, s))) :=
  (laws_markTxn_va_p a0 a1 a2 a3 a4 a5 a6 a7 a8).bind (H := fun (y : (Int × (List dRange) × (List dWrite))) (k : AV × St → Option Res) => (fun (y : (Int × (List dRange) × (List dWrite))) => k ((.int .i64 y.1 : AV), ([.arr tRange y.2.1, .arr tWrite y.2.2] : St))) y) (fun y => par_ret _)

def laws_heldRangeS_g (args : List AV) (st : St) (k : K1) : Option Res :=
  onPats [.lst tRange, .int .i64] [] args st (fun p q => laws_heldRangeS_k p.1 p.2.1 (fun (y : Int) => k (.int .i64 y) []))
    (none)

theorem laws_heldRangeS_q (a0 : (List dRange)) (a1 : Int) : Par (fun k : AV × St → Option Res => laws_heldRangeS_g [.lst tRange a0, .int .i64 a1] [] (fun v s => k (v, s))) :=
  (laws_heldRangeS_p a0 a1).bind (H := fun (y : Int) (k : AV × St → Option Res) => (fun (y : Int) => k ((.int .i64 y : AV), ([] : St))) y) (fun y => par_ret _)

def laws_heldWriteS_g (args : List AV) (st : St) (k : K1) : Option Res :=
  onPats [.lst tWrite, .int .i64] [] args st (fun p q => laws_heldWriteS_k p.1 p.2.1 (fun (y : Int) => k (.int .i64 y) []))
    (none)

theorem laws_heldWriteS_q (a0 : (List dWrite)) (a1 : Int) : Par (fun k : AV × St → Option Res => laws_heldWriteS_g [.lst tWrite a0, .int .i64 a1] [] (fun v s => k (v, s))) :=
  (laws_heldWriteS_p a0 a1).bind (H := fun (y : Int) (k : AV × St → Option Res) => (fun (y : Int) => k ((.int .i64 y : AV), ([] : St))) y) (fun y => par_ret _)

def laws_heldTxn_g (args : List AV) (st : St) (k : K1) : Option Res :=
  onPats [.agg [.int .i64, .int .i64, .int .i64, .int .i64, .lst tRange, .lst tWrite, .bool, .str], .int .i64] [] args st (fun p q => laws_heldTxn_k (p.1.1, (p.1.2.1, (p.1.2.2.1, (p.1.2.2.2.1, (p.1.2.2.2.2.1, (p.1.2.2.2.2.2.1, (p.1.2.2.2.2.2.2.1, p.1.2.2.2.2.2.2.2.1))))))) p.2.1 (fun (y : Int) => k (.int .i64 y) []))
    (none)

theorem laws_heldTxn_q (a0 : Int) (a1 : Int) (a2 : Int) (a3 : Int) (a4 : (List dRange)) (a5 : (List dWrite)) (a6 : Bool) (a7 : ByteArray) (a8 : Int) : Par (fun k : AV × St → Option Res => laws_heldTxn_g [.agg [.int .i64 a0, .int .i64 a1, .int .i64 a2, .int .i64 a3, .lst tRange a4, .lst tWrite a5, .bool a6, .str a7], .int .i64 a8] [] (fun v s => k (v, s))) :=
  (laws_heldTxn_p (a0, (a1, (a2, (a3, (a4, (a5, (a6, a7))))))) a8).bind (H := fun (y : Int) (k : AV × St → Option Res) => (fun (y : Int) => k ((.int .i64 y : AV), ([] : St))) y) (fun y => par_ret _)

def laws_FnExactReadTxn_g (args : List AV) (st : St) (k : K1) : Option Res :=
  onPats [.str, .int .i64] [] args st (fun p q => laws_FnExactReadTxn_k p.1 p.2.1 (fun (y : Bool) => k (.bool y) []))
    (none)

theorem laws_FnExactReadTxn_q (a0 : ByteArray) (a1 : Int) : Par (fun k : AV × St → Option Res => laws_FnExactReadTxn_g [.str a0, .int .i64 a1] [] (fun v s => k (v, s))) :=
  (laws_FnExactReadTxn_p a0 a1).bind (H := fun (y : Bool) (k : AV × St → Option Res) => (fun (y : Bool) => k ((.bool y : AV), ([] : St))) y) (fun y => par_ret _)

end

end Go.VE
