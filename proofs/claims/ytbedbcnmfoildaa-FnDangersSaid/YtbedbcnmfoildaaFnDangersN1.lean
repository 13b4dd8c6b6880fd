/- Native programs of the functions, written by gen.py. -/

import Derived.Test.YtbedbcnmfoildaaT0

namespace Go.VE

noncomputable section

set_option linter.unusedVariables false
set_option linter.unusedSimpArgs false
set_option maxRecDepth 100000


abbrev q0T : Type := ((List Int) × Int × Int × (List dRange))
abbrev q1T : Type := ((List Int) × Int × Int × (List dTxn))
abbrev q2T : Type := ((List Int) × Int × Int × (List dWrite))
abbrev q3T : Type := ((List dRange) × (List dWrite) × Bool × Int × Int)
abbrev q4T : Type := ((List dRange) × (List dWrite) × Bool × Int)
abbrev q5T : Type := ((List dTxn) × Bool × Bool × Int × Int × Int × Int × Int × (List dRange) × (List dWrite) × Bool × ByteArray × Int × Int × Int × Int × (List dRange) × (List dWrite) × Bool × ByteArray)
abbrev q6T : Type := ((List dTxn) × Bool × Bool × Int × Int × Int × Int × Int × (List dRange) × (List dWrite) × Bool × ByteArray)
abbrev q7T : Type := ((List dTxn) × Bool × Bool × Int × Int × Int × Int × Int × Int × (List dRange) × (List dWrite) × Bool × ByteArray × Int × Int × Int × Int × (List dRange) × (List dWrite) × Bool × ByteArray)
abbrev q8T : Type := ((List dTxn) × Bool × Int × Int × Int × Int × (List dRange) × (List dWrite) × Bool × ByteArray)
abbrev q9T : Type := ((List dTxn) × Bool × Int × Int × Int × Int × Int × (List dRange) × (List dWrite) × Bool × ByteArray × Int × Int × Int × Int × (List dRange) × (List dWrite) × Bool × ByteArray)
abbrev q10T : Type := ((List dTxn) × Bool × Int × Int × Int × Int × Int × (List dRange) × (List dWrite) × Bool × ByteArray)
abbrev q11T : Type := ((List dTxn) × Bool × Int × Int × Int × Int × Int × Int × (List dRange) × (List dWrite) × Bool × ByteArray × Int × Int × Int × Int × (List dRange) × (List dWrite) × Bool × ByteArray)
abbrev q12T : Type := ((List dTxn) × Int × Int × Int × (List dTxn) × Int × Int × Int × Int × (List dRange) × (List dWrite) × Bool × ByteArray)
abbrev q13T : Type := ((List dTxn) × Int × Int × Int × Int × Int × Int × Int × (List dRange) × (List dWrite) × Bool × ByteArray × (List dTxn))
abbrev q14T : Type := ((List dTxn) × Int × Int × Int × Int × Int × Int × Int × (List dRange) × (List dWrite) × Bool × ByteArray × Int × Int × Int × Int × (List dRange) × (List dWrite) × Bool × ByteArray)
abbrev q15T : Type := ((List dTxn) × Int × Int × Int × Int × Int × Int × Int × (List dRange) × (List dWrite) × Bool × ByteArray)
abbrev q16T : Type := ((List dWrite) × (List dWrite) × Bool × Int × Int)
abbrev q17T : Type := ((List dWrite) × (List dWrite) × Bool × Int)
abbrev q18T : Type := ((List dWrite) × Bool × (List dRange) × Int × Int × (List dWrite) × Int × Int × ByteArray × ByteArray)
abbrev q19T : Type := ((List dWrite) × Bool × (List dRange) × Int × Int)
abbrev q20T : Type := ((List dWrite) × Bool × (List dWrite) × Int × Int × (List dWrite) × Int × Int × ByteArray × ByteArray × Bool)
abbrev q21T : Type := ((List dWrite) × Bool × (List dWrite) × Int × Int)
abbrev q22T : Type := ((List dWrite) × Int × ByteArray × ByteArray × Bool × (List dWrite))
abbrev q23T : Type := (Bool × (List Int) × Int × Int)
abbrev q24T : Type := (Bool × (List dTxn) × Int × Int × Int × Int × (List dRange) × (List dWrite) × Bool × ByteArray)
abbrev q25T : Type := (Bool × Bool × Bool × Int × Int × Int × Int × Int × Bool × ByteArray × (List dTxn) × Int × Int × Int × Int × Bool × ByteArray × (List dTxn) × Int × Int × Int × Int × Bool × ByteArray × Int × Int × Int × Int × Bool × ByteArray × (List dRange) × (List dWrite) × (List dRange) × (List dWrite) × (List dRange) × (List dWrite) × (List dRange))
abbrev q26T : Type := (Bool × Int × Int × Int × Int × (List dRange) × (List dWrite) × Bool × ByteArray × (List dTxn) × Int × Int × Int × Int × (List dRange) × (List dWrite) × Bool × ByteArray)
abbrev q27T : Type := (Bool × Int × Int × Int × Int × (List dRange) × (List dWrite) × Bool × ByteArray × (List dTxn))
abbrev q28T : Type := (Bool × Int × Int × Int × Int × (List dRange) × (List dWrite) × Bool × ByteArray × Int × Int × Int × Int × (List dRange) × (List dWrite) × Bool × ByteArray)
abbrev q29T : Type := (Bool × Int × Int × Int × Int × (List dRange) × (List dWrite) × Bool × ByteArray)
abbrev q30T : Type := (ByteArray × (List Int) × Int × Int)
abbrev q31T : Type := (ByteArray × ByteArray × (List Int) × Int × Int)
abbrev q32T : Type := (ByteArray × ByteArray × Bool × (List Int) × Int × Int)
abbrev q33T : Type := (Int × (List Int) × Int × Int × (List dRange))
abbrev q34T : Type := (Int × (List Int) × Int × Int × (List dTxn))
abbrev q35T : Type := (Int × (List Int) × Int × Int × (List dWrite))
abbrev q36T : Type := (Int × (List dTxn) × Int × Int × Int × Int × (List dRange) × (List dWrite) × Bool × ByteArray)
abbrev q37T : Type := (Int × Int × Int × Int × Bool × ByteArray × (List Int) × Int × Int × (List dRange) × (List dWrite))
abbrev q38T : Type := (Int × Int × Int × Int × Bool × ByteArray × (List dRange) × (List dWrite) × (List dTxn))
abbrev q39T : Type := (Int × Int × Int × Int × Bool × ByteArray × (List dRange) × (List dWrite))
abbrev q40T : Type := (Int × Int × Int × Int × Int × (List dRange) × (List dWrite) × Bool × ByteArray × (List dTxn))
abbrev q41T : Type := (Int × Int × Int × Int × Int × (List dRange) × (List dWrite) × Bool × ByteArray × Int × Int × Int × Int × (List dRange) × (List dWrite) × Bool × ByteArray)
abbrev q42T : Type := (Int × Int × Int × Int × Int × (List dRange) × (List dWrite) × Bool × ByteArray)
abbrev q43T : Type := (Int × Int × Int × Int × Int × Int × (List dRange) × (List dWrite) × Bool × ByteArray)

def laws_big_d (a0 : (List Int)) (k : Bool → Option Res) : Option Res :=
  k (decide ((a0.length : Int) > (1048576 : Int)))

theorem laws_big_h : ∃ g : (List Int) → (Bool → Option Res) → Option Res, g = laws_big_d := ⟨_, rfl⟩
def laws_big_k : (List Int) → (Bool → Option Res) → Option Res := Classical.choose laws_big_h
theorem laws_big_e : laws_big_k = laws_big_d := Classical.choose_spec laws_big_h

theorem laws_big_p (a0 : (List Int)) : Par (laws_big_k a0) := by
  rw [laws_big_e]
  unfold laws_big_d
  exact (par_ret _)

def spec_l01New_j6000001 (x : ((List Int) × Int × Int)) (k : ((List Int) × Int × Int) → Option Res) : Option Res :=
    if 0 ≤ x.2.2 ∧ x.2.2 < (x.1.length : Int) then
      k (x.1, (IntKind.wrap .i64 (BitVec.ofInt (IntKind.bits .i64) (IntKind.wrap .i64 ((IntKind.wrap .i64 ((IntKind.wrap .i64 (x.2.1 * (131 : Int))) + (IntKind.wrap .i64 (rd (Ty.zero (.int .u8)) x.1 x.2.2)))) + (7 : Int))) &&& BitVec.ofInt (IntKind.bits .i64) (1073741823 : Int)).toNat), (IntKind.wrap .i64 (x.2.2 + (1 : Int))))
    else none

theorem spec_l01New_jp6000001 (x : ((List Int) × Int × Int)) : Par (spec_l01New_j6000001 x) := by
  unfold spec_l01New_j6000001
  exact (par_ite (c := 0 ≤ x.2.2 ∧ x.2.2 < (x.1.length : Int)) (par_ret _) par_none)

def spec_l01New_b0 (x : ((List Int) × Int × Int)) (k : ((List Int) × Int × Int) ⊕ ((List Int) × Int × Int) → Option Res) : Option Res :=
    bif (decide (x.2.2 < (x.1.length : Int))) then
      bif (decide (x.2.2 < (4000 : Int))) then
        spec_l01New_j6000001 (x.1, x.2.1, x.2.2) (fun z2 =>
          k (.inl (z2.1, z2.2.1, z2.2.2)))
      else
        k (.inr (x.1, x.2.1, x.2.2))
    else
      k (.inr (x.1, x.2.1, x.2.2))

theorem spec_l01New_bp0 (x : ((List Int) × Int × Int)) : Par (spec_l01New_b0 x) := by
  unfold spec_l01New_b0
  exact (par_bif (par_bif ((spec_l01New_jp6000001 (x.1, x.2.1, x.2.2)).bind fun z2 => (par_ret _)) (par_ret _)) (par_ret _))

def spec_l01New_d (a0 : (List Int)) (k : ((List Int) × Int × Int) → Option Res) : Option Res :=
  loopK spec_l01New_b0 Fuel (a0, (IntKind.wrap .i64 ((77601 : Int) + (a0.length : Int))), (0 : Int)) (fun z1 =>
    k (z1.1, (0 : Int), z1.2.1))

theorem spec_l01New_h : ∃ g : (List Int) → (((List Int) × Int × Int) → Option Res) → Option Res, g = spec_l01New_d := ⟨_, rfl⟩
def spec_l01New_k : (List Int) → (((List Int) × Int × Int) → Option Res) → Option Res := Classical.choose spec_l01New_h
theorem spec_l01New_e : spec_l01New_k = spec_l01New_d := Classical.choose_spec spec_l01New_h

theorem spec_l01New_p (a0 : (List Int)) : Par (spec_l01New_k a0) := by
  rw [spec_l01New_e]
  unfold spec_l01New_d
  exact ((par_loop spec_l01New_bp0 Fuel (a0, (IntKind.wrap .i64 ((77601 : Int) + (a0.length : Int))), (0 : Int))).bind fun z1 => (par_ret _))

def spec_l01Byte_d (a0 : (List Int)) (a1 : Int) (a2 : Int) (k : (Int × (List Int) × Int × Int) → Option Res) : Option Res :=
  bif (decide (a1 < (a0.length : Int))) then
    if 0 ≤ a1 ∧ a1 < (a0.length : Int) then
      k ((IntKind.wrap .i64 (BitVec.ofInt (IntKind.bits .i64) (IntKind.wrap .i64 ((IntKind.wrap .i64 (BitVec.ofInt (IntKind.bits .i64) (IntKind.wrap .i64 (BitVec.ofInt (IntKind.bits .i64) ((IntKind.wrap .i64 ((IntKind.wrap .i64 (a2 * (6364136223846793005 : Int))) + (1442695040888963407 : Int))).fdiv (2 ^ (min (33 : Int).toNat (IntKind.bits .i64)))) ^^^ BitVec.ofInt (IntKind.bits .i64) ((IntKind.wrap .i64 ((IntKind.wrap .i64 (a2 * (6364136223846793005 : Int))) + (1442695040888963407 : Int))).fdiv (2 ^ (min (45 : Int).toNat (IntKind.bits .i64))))).toNat) &&& BitVec.ofInt (IntKind.bits .i64) (255 : Int)).toNat) + (IntKind.wrap .i64 (rd (Ty.zero (.int .u8)) a0 a1)))) &&& BitVec.ofInt (IntKind.bits .i64) (255 : Int)).toNat), a0, (IntKind.wrap .i64 (a1 + (1 : Int))), (IntKind.wrap .i64 ((IntKind.wrap .i64 (a2 * (6364136223846793005 : Int))) + (1442695040888963407 : Int))))
    else none
  else
    k ((IntKind.wrap .i64 (BitVec.ofInt (IntKind.bits .i64) (IntKind.wrap .i64 (BitVec.ofInt (IntKind.bits .i64) ((IntKind.wrap .i64 ((IntKind.wrap .i64 (a2 * (6364136223846793005 : Int))) + (1442695040888963407 : Int))).fdiv (2 ^ (min (33 : Int).toNat (IntKind.bits .i64)))) ^^^ BitVec.ofInt (IntKind.bits .i64) ((IntKind.wrap .i64 ((IntKind.wrap .i64 (a2 * (6364136223846793005 : Int))) + (1442695040888963407 : Int))).fdiv (2 ^ (min (45 : Int).toNat (IntKind.bits .i64))))).toNat) &&& BitVec.ofInt (IntKind.bits .i64) (255 : Int)).toNat), a0, a1, (IntKind.wrap .i64 ((IntKind.wrap .i64 (a2 * (6364136223846793005 : Int))) + (1442695040888963407 : Int))))

theorem spec_l01Byte_h : ∃ g : (List Int) → Int → Int → ((Int × (List Int) × Int × Int) → Option Res) → Option Res, g = spec_l01Byte_d := ⟨_, rfl⟩
def spec_l01Byte_k : (List Int) → Int → Int → ((Int × (List Int) × Int × Int) → Option Res) → Option Res := Classical.choose spec_l01Byte_h
theorem spec_l01Byte_e : spec_l01Byte_k = spec_l01Byte_d := Classical.choose_spec spec_l01Byte_h

theorem spec_l01Byte_p (a0 : (List Int)) (a1 : Int) (a2 : Int) : Par (spec_l01Byte_k a0 a1 a2) := by
  rw [spec_l01Byte_e]
  unfold spec_l01Byte_d
  exact (par_bif (par_ite (c := 0 ≤ a1 ∧ a1 < (a0.length : Int)) (par_ret _) par_none) (par_ret _))

def spec_l01Below_d (a0 : Int) (a1 : (List Int)) (a2 : Int) (a3 : Int) (k : (Int × (List Int) × Int × Int) → Option Res) : Option Res :=
  bif (decide (a0 ≤ (0 : Int))) then
    k ((0 : Int), a1, a2, a3)
  else
    bif (decide (a0 ≤ (256 : Int))) then
      spec_l01Byte_k a1 a2 a3 (fun y1 =>
        if a0 = 0 then none else
          k ((y1.1.tmod a0), y1.2.1, y1.2.2.1, y1.2.2.2))
    else
      spec_l01Byte_k a1 a2 a3 (fun y2 =>
        spec_l01Byte_k y2.2.1 y2.2.2.1 y2.2.2.2 (fun y3 =>
          spec_l01Byte_k y3.2.1 y3.2.2.1 y3.2.2.2 (fun y4 =>
            spec_l01Byte_k y4.2.1 y4.2.2.1 y4.2.2.2 (fun y5 =>
              if a0 = 0 then none else
                k (((IntKind.wrap .i64 ((IntKind.wrap .i64 ((IntKind.wrap .i64 ((IntKind.wrap .i64 (y2.1 * (16777216 : Int))) + (IntKind.wrap .i64 (y3.1 * (65536 : Int))))) + (IntKind.wrap .i64 (y4.1 * (256 : Int))))) + y5.1)).tmod a0), y5.2.1, y5.2.2.1, y5.2.2.2)))))

theorem spec_l01Below_h : ∃ g : Int → (List Int) → Int → Int → ((Int × (List Int) × Int × Int) → Option Res) → Option Res, g = spec_l01Below_d := ⟨_, rfl⟩
def spec_l01Below_k : Int → (List Int) → Int → Int → ((Int × (List Int) × Int × Int) → Option Res) → Option Res := Classical.choose spec_l01Below_h
theorem spec_l01Below_e : spec_l01Below_k = spec_l01Below_d := Classical.choose_spec spec_l01Below_h

theorem spec_l01Below_p (a0 : Int) (a1 : (List Int)) (a2 : Int) (a3 : Int) : Par (spec_l01Below_k a0 a1 a2 a3) := by
  rw [spec_l01Below_e]
  unfold spec_l01Below_d
  exact (par_bif (par_ret _) (par_bif ((spec_l01Byte_p a1 a2 a3).bind fun y1 => (par_ite (c := a0 = 0) par_none (par_ret _))) ((spec_l01Byte_p a1 a2 a3).bind fun y2 => ((spec_l01Byte_p y2.2.1 y2.2.2.1 y2.2.2.2).bind fun y3 => ((spec_l01Byte_p y3.2.1 y3.2.2.1 y3.2.2.2).bind fun y4 => ((spec_l01Byte_p y4.2.1 y4.2.2.1 y4.2.2.2).bind fun y5 => (par_ite (c := a0 = 0) par_none (par_ret _))))))))

def spec_l01Pick_d (a0 : (List ByteArray)) (a1 : (List Int)) (a2 : Int) (a3 : Int) (k : q30T → Option Res) : Option Res :=
  spec_l01Below_k (a0.length : Int) a1 a2 a3 (fun y1 =>
    if 0 ≤ y1.1 ∧ y1.1 < (a0.length : Int) then
      k ((rd (Ty.zero .str) a0 y1.1), y1.2.1, y1.2.2.1, y1.2.2.2)
    else none)

theorem spec_l01Pick_h : ∃ g : (List ByteArray) → (List Int) → Int → Int → (q30T → Option Res) → Option Res, g = spec_l01Pick_d := ⟨_, rfl⟩
def spec_l01Pick_k : (List ByteArray) → (List Int) → Int → Int → (q30T → Option Res) → Option Res := Classical.choose spec_l01Pick_h
theorem spec_l01Pick_e : spec_l01Pick_k = spec_l01Pick_d := Classical.choose_spec spec_l01Pick_h

theorem spec_l01Pick_p (a0 : (List ByteArray)) (a1 : (List Int)) (a2 : Int) (a3 : Int) : Par (spec_l01Pick_k a0 a1 a2 a3) := by
  rw [spec_l01Pick_e]
  unfold spec_l01Pick_d
  exact ((spec_l01Below_p (a0.length : Int) a1 a2 a3).bind fun y1 => (par_ite (c := 0 ≤ y1.1 ∧ y1.1 < (a0.length : Int)) (par_ret _) par_none))

def spec_l05Key_d (a0 : (List Int)) (a1 : Int) (a2 : Int) (k : q30T → Option Res) : Option Res :=
  spec_l01Pick_k [(⟨#[97]⟩ : ByteArray), (⟨#[98]⟩ : ByteArray), (⟨#[99]⟩ : ByteArray), (⟨#[100]⟩ : ByteArray), (⟨#[97, 98]⟩ : ByteArray)] a0 a1 a2 (fun y1 =>
    k (y1.1, y1.2.1, y1.2.2.1, y1.2.2.2))

theorem spec_l05Key_h : ∃ g : (List Int) → Int → Int → (q30T → Option Res) → Option Res, g = spec_l05Key_d := ⟨_, rfl⟩
def spec_l05Key_k : (List Int) → Int → Int → (q30T → Option Res) → Option Res := Classical.choose spec_l05Key_h
theorem spec_l05Key_e : spec_l05Key_k = spec_l05Key_d := Classical.choose_spec spec_l05Key_h

theorem spec_l05Key_p (a0 : (List Int)) (a1 : Int) (a2 : Int) : Par (spec_l05Key_k a0 a1 a2) := by
  rw [spec_l05Key_e]
  unfold spec_l05Key_d
  exact ((spec_l01Pick_p [(⟨#[97]⟩ : ByteArray), (⟨#[98]⟩ : ByteArray), (⟨#[99]⟩ : ByteArray), (⟨#[100]⟩ : ByteArray), (⟨#[97, 98]⟩ : ByteArray)] a0 a1 a2).bind fun y1 => (par_ret _))

def spec_l01Once_d (a0 : Int) (a1 : (List Int)) (a2 : Int) (a3 : Int) (k : q23T → Option Res) : Option Res :=
  spec_l01Below_k a0 a1 a2 a3 (fun y1 =>
    k ((y1.1 == (0 : Int)), y1.2.1, y1.2.2.1, y1.2.2.2))

theorem spec_l01Once_h : ∃ g : Int → (List Int) → Int → Int → (q23T → Option Res) → Option Res, g = spec_l01Once_d := ⟨_, rfl⟩
def spec_l01Once_k : Int → (List Int) → Int → Int → (q23T → Option Res) → Option Res := Classical.choose spec_l01Once_h
theorem spec_l01Once_e : spec_l01Once_k = spec_l01Once_d := Classical.choose_spec spec_l01Once_h

theorem spec_l01Once_p (a0 : Int) (a1 : (List Int)) (a2 : Int) (a3 : Int) : Par (spec_l01Once_k a0 a1 a2 a3) := by
  rw [spec_l01Once_e]
  unfold spec_l01Once_d
  exact ((spec_l01Below_p a0 a1 a2 a3).bind fun y1 => (par_ret _))

def spec_l05Range_d (a0 : (List Int)) (a1 : Int) (a2 : Int) (k : q31T → Option Res) : Option Res :=
  spec_l05Key_k a0 a1 a2 (fun y1 =>
    spec_l01Once_k (2 : Int) y1.2.1 y1.2.2.1 y1.2.2.2 (fun y2 =>
      bif y2.1 then
        k (y1.1, y1.1, y2.2.1, y2.2.2.1, y2.2.2.2)
      else
        spec_l05Key_k y2.2.1 y2.2.2.1 y2.2.2.2 (fun y3 =>
          bif (strLess y3.1 y1.1) then
            k (y3.1, y1.1, y3.2.1, y3.2.2.1, y3.2.2.2)
          else
            k (y1.1, y3.1, y3.2.1, y3.2.2.1, y3.2.2.2))))

theorem spec_l05Range_h : ∃ g : (List Int) → Int → Int → (q31T → Option Res) → Option Res, g = spec_l05Range_d := ⟨_, rfl⟩
def spec_l05Range_k : (List Int) → Int → Int → (q31T → Option Res) → Option Res := Classical.choose spec_l05Range_h
theorem spec_l05Range_e : spec_l05Range_k = spec_l05Range_d := Classical.choose_spec spec_l05Range_h

theorem spec_l05Range_p (a0 : (List Int)) (a1 : Int) (a2 : Int) : Par (spec_l05Range_k a0 a1 a2) := by
  rw [spec_l05Range_e]
  unfold spec_l05Range_d
  exact ((spec_l05Key_p a0 a1 a2).bind fun y1 => ((spec_l01Once_p (2 : Int) y1.2.1 y1.2.2.1 y1.2.2.2).bind fun y2 => (par_bif (par_ret _) ((spec_l05Key_p y2.2.1 y2.2.2.1 y2.2.2.2).bind fun y3 => (par_bif (par_ret _) (par_ret _))))))

def spec_l05Ranges_b0 (x : q33T) (k : q33T ⊕ q33T → Option Res) : Option Res :=
    spec_l01Below_k (4 : Int) x.2.1 x.2.2.1 x.2.2.2.1 (fun y2 =>
      bif (decide (x.1 < y2.1)) then
        spec_l05Range_k y2.2.1 y2.2.2.1 y2.2.2.2 (fun y3 =>
          if x.2.2.2.2.length + [(y3.1, y3.2.1)].length ≤ VE.maxLen then
            k (.inl ((IntKind.wrap .i64 (x.1 + (1 : Int))), y3.2.2.1, y3.2.2.2.1, y3.2.2.2.2, (x.2.2.2.2 ++ [(y3.1, y3.2.1)])))
          else none)
      else
        k (.inr (x.1, y2.2.1, y2.2.2.1, y2.2.2.2, x.2.2.2.2)))

theorem spec_l05Ranges_bp0 (x : q33T) : Par (spec_l05Ranges_b0 x) := by
  unfold spec_l05Ranges_b0
  exact ((spec_l01Below_p (4 : Int) x.2.1 x.2.2.1 x.2.2.2.1).bind fun y2 => (par_bif ((spec_l05Range_p y2.2.1 y2.2.2.1 y2.2.2.2).bind fun y3 => (par_ite (c := x.2.2.2.2.length + [(y3.1, y3.2.1)].length ≤ VE.maxLen) (par_ret _) par_none)) (par_ret _)))

def spec_l05Ranges_d (a0 : (List Int)) (a1 : Int) (a2 : Int) (k : q0T → Option Res) : Option Res :=
  loopK spec_l05Ranges_b0 Fuel ((0 : Int), a0, a1, a2, ([] : List dRange)) (fun z1 =>
    k (z1.2.1, z1.2.2.1, z1.2.2.2.1, z1.2.2.2.2))

theorem spec_l05Ranges_h : ∃ g : (List Int) → Int → Int → (q0T → Option Res) → Option Res, g = spec_l05Ranges_d := ⟨_, rfl⟩
def spec_l05Ranges_k : (List Int) → Int → Int → (q0T → Option Res) → Option Res := Classical.choose spec_l05Ranges_h
theorem spec_l05Ranges_e : spec_l05Ranges_k = spec_l05Ranges_d := Classical.choose_spec spec_l05Ranges_h

theorem spec_l05Ranges_p (a0 : (List Int)) (a1 : Int) (a2 : Int) : Par (spec_l05Ranges_k a0 a1 a2) := by
  rw [spec_l05Ranges_e]
  unfold spec_l05Ranges_d
  exact ((par_loop spec_l05Ranges_bp0 Fuel ((0 : Int), a0, a1, a2, ([] : List dRange))).bind fun z1 => (par_ret _))

def spec_l05Write_d (a0 : (List Int)) (a1 : Int) (a2 : Int) (k : q32T → Option Res) : Option Res :=
  spec_l05Key_k a0 a1 a2 (fun y1 =>
    spec_l01Pick_k [(⟨#[111, 110, 101]⟩ : ByteArray), (⟨#[116, 119, 111]⟩ : ByteArray), (⟨#[]⟩ : ByteArray), (⟨#[120, 0]⟩ : ByteArray)] y1.2.1 y1.2.2.1 y1.2.2.2 (fun y2 =>
      spec_l01Once_k (5 : Int) y2.2.1 y2.2.2.1 y2.2.2.2 (fun y3 =>
        bif y3.1 then
          k (y1.1, (⟨#[]⟩ : ByteArray), true, y3.2.1, y3.2.2.1, y3.2.2.2)
        else
          k (y1.1, y2.1, false, y3.2.1, y3.2.2.1, y3.2.2.2))))

theorem spec_l05Write_h : ∃ g : (List Int) → Int → Int → (q32T → Option Res) → Option Res, g = spec_l05Write_d := ⟨_, rfl⟩
def spec_l05Write_k : (List Int) → Int → Int → (q32T → Option Res) → Option Res := Classical.choose spec_l05Write_h
theorem spec_l05Write_e : spec_l05Write_k = spec_l05Write_d := Classical.choose_spec spec_l05Write_h

theorem spec_l05Write_p (a0 : (List Int)) (a1 : Int) (a2 : Int) : Par (spec_l05Write_k a0 a1 a2) := by
  rw [spec_l05Write_e]
  unfold spec_l05Write_d
  exact ((spec_l05Key_p a0 a1 a2).bind fun y1 => ((spec_l01Pick_p [(⟨#[111, 110, 101]⟩ : ByteArray), (⟨#[116, 119, 111]⟩ : ByteArray), (⟨#[]⟩ : ByteArray), (⟨#[120, 0]⟩ : ByteArray)] y1.2.1 y1.2.2.1 y1.2.2.2).bind fun y2 => ((spec_l01Once_p (5 : Int) y2.2.1 y2.2.2.1 y2.2.2.2).bind fun y3 => (par_bif (par_ret _) (par_ret _)))))

def spec_PutWrite_b0 (x : q22T) (k : q22T ⊕ q22T → Option Res) : Option Res :=
    bif (decide (x.2.1 < (x.1.length : Int))) then
      if 0 ≤ x.2.1 ∧ x.2.1 < (x.1.length : Int) then
        bif (strLess ((rd (Ty.zero tWrite) x.1 x.2.1).1) x.2.2.1) then
          if 0 ≤ x.2.1 ∧ x.2.1 < (x.1.length : Int) then
            if x.2.2.2.2.2.length + [(rd (Ty.zero tWrite) x.1 x.2.1)].length ≤ VE.maxLen then
              k (.inl (x.1, (IntKind.wrap .i64 (x.2.1 + (1 : Int))), x.2.2.1, x.2.2.2.1, x.2.2.2.2.1, (x.2.2.2.2.2 ++ [(rd (Ty.zero tWrite) x.1 x.2.1)])))
            else none
          else none
        else
          k (.inl (x.1, (IntKind.wrap .i64 (x.2.1 + (1 : Int))), x.2.2.1, x.2.2.2.1, x.2.2.2.2.1, x.2.2.2.2.2))
      else none
    else
      k (.inr (x.1, x.2.1, x.2.2.1, x.2.2.2.1, x.2.2.2.2.1, x.2.2.2.2.2))

theorem spec_PutWrite_bp0 (x : q22T) : Par (spec_PutWrite_b0 x) := by
  unfold spec_PutWrite_b0
  exact (par_bif (par_ite (c := 0 ≤ x.2.1 ∧ x.2.1 < (x.1.length : Int)) (par_bif (par_ite (c := 0 ≤ x.2.1 ∧ x.2.1 < (x.1.length : Int)) (par_ite (c := x.2.2.2.2.2.length + [(rd (Ty.zero tWrite) x.1 x.2.1)].length ≤ VE.maxLen) (par_ret _) par_none) par_none) (par_ret _)) par_none) (par_ret _))

def spec_PutWrite_b2 (x : q22T) (k : q22T ⊕ q22T → Option Res) : Option Res :=
    bif (decide (x.2.1 < (x.1.length : Int))) then
      if 0 ≤ x.2.1 ∧ x.2.1 < (x.1.length : Int) then
        bif (!((strLess ((rd (Ty.zero tWrite) x.1 x.2.1).1) x.2.2.1) || (strEq ((rd (Ty.zero tWrite) x.1 x.2.1).1) x.2.2.1))) then
          if 0 ≤ x.2.1 ∧ x.2.1 < (x.1.length : Int) then
            if x.2.2.2.2.2.length + [(rd (Ty.zero tWrite) x.1 x.2.1)].length ≤ VE.maxLen then
              k (.inl (x.1, (IntKind.wrap .i64 (x.2.1 + (1 : Int))), x.2.2.1, x.2.2.2.1, x.2.2.2.2.1, (x.2.2.2.2.2 ++ [(rd (Ty.zero tWrite) x.1 x.2.1)])))
            else none
          else none
        else
          k (.inl (x.1, (IntKind.wrap .i64 (x.2.1 + (1 : Int))), x.2.2.1, x.2.2.2.1, x.2.2.2.2.1, x.2.2.2.2.2))
      else none
    else
      k (.inr (x.1, x.2.1, x.2.2.1, x.2.2.2.1, x.2.2.2.2.1, x.2.2.2.2.2))

theorem spec_PutWrite_bp2 (x : q22T) : Par (spec_PutWrite_b2 x) := by
  unfold spec_PutWrite_b2
  exact (par_bif (par_ite (c := 0 ≤ x.2.1 ∧ x.2.1 < (x.1.length : Int)) (par_bif (par_ite (c := 0 ≤ x.2.1 ∧ x.2.1 < (x.1.length : Int)) (par_ite (c := x.2.2.2.2.2.length + [(rd (Ty.zero tWrite) x.1 x.2.1)].length ≤ VE.maxLen) (par_ret _) par_none) par_none) (par_ret _)) par_none) (par_ret _))

def spec_PutWrite_d (a0 : (List dWrite)) (a1 : dWrite) (k : (List dWrite) → Option Res) : Option Res :=
  loopK spec_PutWrite_b0 Fuel (a0, (0 : Int), a1.1, a1.2.1, a1.2.2, ([] : List dWrite)) (fun z1 =>
    if z1.2.2.2.2.2.length + [(z1.2.2.1, (z1.2.2.2.1, z1.2.2.2.2.1))].length ≤ VE.maxLen then
      loopK spec_PutWrite_b2 Fuel (z1.1, (0 : Int), z1.2.2.1, z1.2.2.2.1, z1.2.2.2.2.1, (z1.2.2.2.2.2 ++ [(z1.2.2.1, (z1.2.2.2.1, z1.2.2.2.2.1))])) (fun z2 =>
        k z2.2.2.2.2.2)
    else none)

theorem spec_PutWrite_h : ∃ g : (List dWrite) → dWrite → ((List dWrite) → Option Res) → Option Res, g = spec_PutWrite_d := ⟨_, rfl⟩
def spec_PutWrite_k : (List dWrite) → dWrite → ((List dWrite) → Option Res) → Option Res := Classical.choose spec_PutWrite_h
theorem spec_PutWrite_e : spec_PutWrite_k = spec_PutWrite_d := Classical.choose_spec spec_PutWrite_h

theorem spec_PutWrite_p (a0 : (List dWrite)) (a1 : dWrite) : Par (spec_PutWrite_k a0 a1) := by
  rw [spec_PutWrite_e]
  unfold spec_PutWrite_d
  exact ((par_loop spec_PutWrite_bp0 Fuel (a0, (0 : Int), a1.1, a1.2.1, a1.2.2, ([] : List dWrite))).bind fun z1 => (par_ite (c := z1.2.2.2.2.2.length + [(z1.2.2.1, (z1.2.2.2.1, z1.2.2.2.2.1))].length ≤ VE.maxLen) ((par_loop spec_PutWrite_bp2 Fuel (z1.1, (0 : Int), z1.2.2.1, z1.2.2.2.1, z1.2.2.2.2.1, (z1.2.2.2.2.2 ++ [(z1.2.2.1, (z1.2.2.2.1, z1.2.2.2.2.1))]))).bind fun z2 => (par_ret _)) par_none))

def spec_l05Writes_b0 (x : q35T) (k : q35T ⊕ q35T → Option Res) : Option Res :=
    spec_l01Below_k (4 : Int) x.2.1 x.2.2.1 x.2.2.2.1 (fun y2 =>
      bif (decide (x.1 < y2.1)) then
        spec_l05Write_k y2.2.1 y2.2.2.1 y2.2.2.2 (fun y3 =>
          spec_PutWrite_k x.2.2.2.2 (y3.1, (y3.2.1, y3.2.2.1)) (fun y4 =>
            k (.inl ((IntKind.wrap .i64 (x.1 + (1 : Int))), y3.2.2.2.1, y3.2.2.2.2.1, y3.2.2.2.2.2, y4))))
      else
        k (.inr (x.1, y2.2.1, y2.2.2.1, y2.2.2.2, x.2.2.2.2)))

theorem spec_l05Writes_bp0 (x : q35T) : Par (spec_l05Writes_b0 x) := by
  unfold spec_l05Writes_b0
  exact ((spec_l01Below_p (4 : Int) x.2.1 x.2.2.1 x.2.2.2.1).bind fun y2 => (par_bif ((spec_l05Write_p y2.2.1 y2.2.2.1 y2.2.2.2).bind fun y3 => ((spec_PutWrite_p x.2.2.2.2 (y3.1, (y3.2.1, y3.2.2.1))).bind fun y4 => (par_ret _))) (par_ret _)))

def spec_l05Writes_d (a0 : (List Int)) (a1 : Int) (a2 : Int) (k : q2T → Option Res) : Option Res :=
  loopK spec_l05Writes_b0 Fuel ((0 : Int), a0, a1, a2, ([] : List dWrite)) (fun z1 =>
    k (z1.2.1, z1.2.2.1, z1.2.2.2.1, z1.2.2.2.2))

theorem spec_l05Writes_h : ∃ g : (List Int) → Int → Int → (q2T → Option Res) → Option Res, g = spec_l05Writes_d := ⟨_, rfl⟩
def spec_l05Writes_k : (List Int) → Int → Int → (q2T → Option Res) → Option Res := Classical.choose spec_l05Writes_h
theorem spec_l05Writes_e : spec_l05Writes_k = spec_l05Writes_d := Classical.choose_spec spec_l05Writes_h

theorem spec_l05Writes_p (a0 : (List Int)) (a1 : Int) (a2 : Int) : Par (spec_l05Writes_k a0 a1 a2) := by
  rw [spec_l05Writes_e]
  unfold spec_l05Writes_d
  exact ((par_loop spec_l05Writes_bp0 Fuel ((0 : Int), a0, a1, a2, ([] : List dWrite))).bind fun z1 => (par_ret _))

def spec_l07Txn_d (a0 : (List Int)) (a1 : Int) (a2 : Int) (k : q37T → Option Res) : Option Res :=
  spec_l01Below_k (6 : Int) a0 a1 a2 (fun y1 =>
    spec_l01Below_k (3 : Int) y1.2.1 y1.2.2.1 y1.2.2.2 (fun y2 =>
      spec_l01Below_k (6 : Int) y2.2.1 y2.2.2.1 y2.2.2.2 (fun y3 =>
        spec_l05Ranges_k y3.2.1 y3.2.2.1 y3.2.2.2 (fun y4 =>
          spec_l05Writes_k y4.1 y4.2.1 y4.2.2.1 (fun y5 =>
            bif ((IntKind.wrap .i64 ((1 : Int) + y2.1)) == (2 : Int)) then
              spec_l05Key_k y5.1 y5.2.1 y5.2.2.1 (fun y6 =>
                spec_l01Once_k (2 : Int) y6.2.1 y6.2.2.1 y6.2.2.2 (fun y7 =>
                  k ((IntKind.wrap .i64 ((1 : Int) + y1.1)), (IntKind.wrap .i64 ((1 : Int) + y2.1)), y3.1, (0 : Int), y7.1, y6.1, y7.2.1, y7.2.2.1, y7.2.2.2, y4.2.2.2, y5.2.2.2)))
            else
              bif ((IntKind.wrap .i64 ((1 : Int) + y2.1)) == (3 : Int)) then
                spec_l01Below_k (4 : Int) y5.1 y5.2.1 y5.2.2.1 (fun y8 =>
                  spec_l01Once_k (2 : Int) y8.2.1 y8.2.2.1 y8.2.2.2 (fun y9 =>
                    k ((IntKind.wrap .i64 ((1 : Int) + y1.1)), (IntKind.wrap .i64 ((1 : Int) + y2.1)), y3.1, (IntKind.wrap .i64 ((IntKind.wrap .i64 (y3.1 + (1 : Int))) + y8.1)), y9.1, (⟨#[]⟩ : ByteArray), y9.2.1, y9.2.2.1, y9.2.2.2, y4.2.2.2, y5.2.2.2)))
              else
                k ((IntKind.wrap .i64 ((1 : Int) + y1.1)), (IntKind.wrap .i64 ((1 : Int) + y2.1)), y3.1, (0 : Int), false, (⟨#[]⟩ : ByteArray), y5.1, y5.2.1, y5.2.2.1, y4.2.2.2, y5.2.2.2))))))

theorem spec_l07Txn_h : ∃ g : (List Int) → Int → Int → (q37T → Option Res) → Option Res, g = spec_l07Txn_d := ⟨_, rfl⟩
def spec_l07Txn_k : (List Int) → Int → Int → (q37T → Option Res) → Option Res := Classical.choose spec_l07Txn_h
theorem spec_l07Txn_e : spec_l07Txn_k = spec_l07Txn_d := Classical.choose_spec spec_l07Txn_h

theorem spec_l07Txn_p (a0 : (List Int)) (a1 : Int) (a2 : Int) : Par (spec_l07Txn_k a0 a1 a2) := by
  rw [spec_l07Txn_e]
  unfold spec_l07Txn_d
  exact ((spec_l01Below_p (6 : Int) a0 a1 a2).bind fun y1 => ((spec_l01Below_p (3 : Int) y1.2.1 y1.2.2.1 y1.2.2.2).bind fun y2 => ((spec_l01Below_p (6 : Int) y2.2.1 y2.2.2.1 y2.2.2.2).bind fun y3 => ((spec_l05Ranges_p y3.2.1 y3.2.2.1 y3.2.2.2).bind fun y4 => ((spec_l05Writes_p y4.1 y4.2.1 y4.2.2.1).bind fun y5 => (par_bif ((spec_l05Key_p y5.1 y5.2.1 y5.2.2.1).bind fun y6 => ((spec_l01Once_p (2 : Int) y6.2.1 y6.2.2.1 y6.2.2.2).bind fun y7 => (par_ret _))) (par_bif ((spec_l01Below_p (4 : Int) y5.1 y5.2.1 y5.2.2.1).bind fun y8 => ((spec_l01Once_p (2 : Int) y8.2.1 y8.2.2.1 y8.2.2.2).bind fun y9 => (par_ret _))) (par_ret _))))))))

def spec_l08List_b0 (x : q34T) (k : q34T ⊕ q34T → Option Res) : Option Res :=
    spec_l01Below_k (5 : Int) x.2.1 x.2.2.1 x.2.2.2.1 (fun y2 =>
      bif (decide (x.1 < y2.1)) then
        spec_l07Txn_k y2.2.1 y2.2.2.1 y2.2.2.2 (fun y3 =>
          if x.2.2.2.2.length + [((IntKind.wrap .i64 ((10 : Int) + x.1)), (y3.2.1, (y3.2.2.1, (y3.2.2.2.1, (y3.2.2.2.2.2.2.2.2.2.1, (y3.2.2.2.2.2.2.2.2.2.2, (y3.2.2.2.2.1, y3.2.2.2.2.2.1)))))))].length ≤ VE.maxLen then
            k (.inl ((IntKind.wrap .i64 (x.1 + (1 : Int))), y3.2.2.2.2.2.2.1, y3.2.2.2.2.2.2.2.1, y3.2.2.2.2.2.2.2.2.1, (x.2.2.2.2 ++ [((IntKind.wrap .i64 ((10 : Int) + x.1)), (y3.2.1, (y3.2.2.1, (y3.2.2.2.1, (y3.2.2.2.2.2.2.2.2.2.1, (y3.2.2.2.2.2.2.2.2.2.2, (y3.2.2.2.2.1, y3.2.2.2.2.2.1)))))))])))
          else none)
      else
        k (.inr (x.1, y2.2.1, y2.2.2.1, y2.2.2.2, x.2.2.2.2)))

theorem spec_l08List_bp0 (x : q34T) : Par (spec_l08List_b0 x) := by
  unfold spec_l08List_b0
  exact ((spec_l01Below_p (5 : Int) x.2.1 x.2.2.1 x.2.2.2.1).bind fun y2 => (par_bif ((spec_l07Txn_p y2.2.1 y2.2.2.1 y2.2.2.2).bind fun y3 => (par_ite (c := x.2.2.2.2.length + [((IntKind.wrap .i64 ((10 : Int) + x.1)), (y3.2.1, (y3.2.2.1, (y3.2.2.2.1, (y3.2.2.2.2.2.2.2.2.2.1, (y3.2.2.2.2.2.2.2.2.2.2, (y3.2.2.2.2.1, y3.2.2.2.2.2.1)))))))].length ≤ VE.maxLen) (par_ret _) par_none)) (par_ret _)))

def spec_l08List_d (a0 : (List Int)) (a1 : Int) (a2 : Int) (k : q1T → Option Res) : Option Res :=
  loopK spec_l08List_b0 Fuel ((0 : Int), a0, a1, a2, ([] : List dTxn)) (fun z1 =>
    k (z1.2.1, z1.2.2.1, z1.2.2.2.1, z1.2.2.2.2))

theorem spec_l08List_h : ∃ g : (List Int) → Int → Int → (q1T → Option Res) → Option Res, g = spec_l08List_d := ⟨_, rfl⟩
def spec_l08List_k : (List Int) → Int → Int → (q1T → Option Res) → Option Res := Classical.choose spec_l08List_h
theorem spec_l08List_e : spec_l08List_k = spec_l08List_d := Classical.choose_spec spec_l08List_h

theorem spec_l08List_p (a0 : (List Int)) (a1 : Int) (a2 : Int) : Par (spec_l08List_k a0 a1 a2) := by
  rw [spec_l08List_e]
  unfold spec_l08List_d
  exact ((par_loop spec_l08List_bp0 Fuel ((0 : Int), a0, a1, a2, ([] : List dTxn))).bind fun z1 => (par_ret _))

def spec_DrawOthers_d (a0 : (List Int)) (k : q38T → Option Res) : Option Res :=
  spec_l01New_k a0 (fun y1 =>
    spec_l05Ranges_k y1.1 y1.2.1 y1.2.2 (fun y2 =>
      spec_l05Writes_k y2.1 y2.2.1 y2.2.2.1 (fun y3 =>
        spec_l01Below_k (4 : Int) y3.1 y3.2.1 y3.2.2.1 (fun y4 =>
          spec_l08List_k y4.2.1 y4.2.2.1 y4.2.2.2 (fun y5 =>
            k ((1 : Int), (1 : Int), y4.1, (0 : Int), false, (⟨#[]⟩ : ByteArray), y2.2.2.2, y3.2.2.2, y5.2.2.2))))))

theorem spec_DrawOthers_h : ∃ g : (List Int) → (q38T → Option Res) → Option Res, g = spec_DrawOthers_d := ⟨_, rfl⟩
def spec_DrawOthers_k : (List Int) → (q38T → Option Res) → Option Res := Classical.choose spec_DrawOthers_h
theorem spec_DrawOthers_e : spec_DrawOthers_k = spec_DrawOthers_d := Classical.choose_spec spec_DrawOthers_h

theorem spec_DrawOthers_p (a0 : (List Int)) : Par (spec_DrawOthers_k a0) := by
  rw [spec_DrawOthers_e]
  unfold spec_DrawOthers_d
  exact ((spec_l01New_p a0).bind fun y1 => ((spec_l05Ranges_p y1.1 y1.2.1 y1.2.2).bind fun y2 => ((spec_l05Writes_p y2.1 y2.2.1 y2.2.2.1).bind fun y3 => ((spec_l01Below_p (4 : Int) y3.1 y3.2.1 y3.2.2.1).bind fun y4 => ((spec_l08List_p y4.2.1 y4.2.2.1 y4.2.2.2).bind fun y5 => (par_ret _))))))

def impl_isReady_d (a0 : dTxn) (k : Bool → Option Res) : Option Res :=
  k (a0.2.1 == (2 : Int))

theorem impl_isReady_h : ∃ g : dTxn → (Bool → Option Res) → Option Res, g = impl_isReady_d := ⟨_, rfl⟩
def impl_isReady_k : dTxn → (Bool → Option Res) → Option Res := Classical.choose impl_isReady_h
theorem impl_isReady_e : impl_isReady_k = impl_isReady_d := Classical.choose_spec impl_isReady_h

theorem impl_isReady_p (a0 : dTxn) : Par (impl_isReady_k a0) := by
  rw [impl_isReady_e]
  unfold impl_isReady_d
  exact (par_ret _)

def impl_Beside_1_d (a0 : dTxn) (a1 : dTxn) (k : Bool → Option Res) : Option Res :=
  bif (a0.2.1 == (3 : Int)) then
    k (decide (a0.2.2.2.1 ≤ a1.2.2.1))
  else
    k false

theorem impl_Beside_1_h : ∃ g : dTxn → dTxn → (Bool → Option Res) → Option Res, g = impl_Beside_1_d := ⟨_, rfl⟩
def impl_Beside_1_k : dTxn → dTxn → (Bool → Option Res) → Option Res := Classical.choose impl_Beside_1_h
theorem impl_Beside_1_e : impl_Beside_1_k = impl_Beside_1_d := Classical.choose_spec impl_Beside_1_h

theorem impl_Beside_1_p (a0 : dTxn) (a1 : dTxn) : Par (impl_Beside_1_k a0 a1) := by
  rw [impl_Beside_1_e]
  unfold impl_Beside_1_d
  exact (par_bif (par_ret _) (par_ret _))

def impl_Beside_d (a0 : dTxn) (a1 : dTxn) (k : Bool → Option Res) : Option Res :=
  bif (a0.1 != a1.1) then
    impl_Beside_1_k a0 a1 (fun y1 =>
      bif (!y1) then
        impl_Beside_1_k a1 a0 (fun y2 =>
          k (!y2))
      else
        k false)
  else
    k false

theorem impl_Beside_h : ∃ g : dTxn → dTxn → (Bool → Option Res) → Option Res, g = impl_Beside_d := ⟨_, rfl⟩
def impl_Beside_k : dTxn → dTxn → (Bool → Option Res) → Option Res := Classical.choose impl_Beside_h
theorem impl_Beside_e : impl_Beside_k = impl_Beside_d := Classical.choose_spec impl_Beside_h

theorem impl_Beside_p (a0 : dTxn) (a1 : dTxn) : Par (impl_Beside_k a0 a1) := by
  rw [impl_Beside_e]
  unfold impl_Beside_d
  exact (par_bif ((impl_Beside_1_p a0 a1).bind fun y1 => (par_bif ((impl_Beside_1_p a1 a0).bind fun y2 => (par_ret _)) (par_ret _))) (par_ret _))

def impl_InRange_d (a0 : dRange) (a1 : ByteArray) (k : Bool → Option Res) : Option Res :=
  bif (!(strLess a1 a0.1)) then
    k ((strLess a1 a0.2) || (strEq a1 a0.2))
  else
    k false

theorem impl_InRange_h : ∃ g : dRange → ByteArray → (Bool → Option Res) → Option Res, g = impl_InRange_d := ⟨_, rfl⟩
def impl_InRange_k : dRange → ByteArray → (Bool → Option Res) → Option Res := Classical.choose impl_InRange_h
theorem impl_InRange_e : impl_InRange_k = impl_InRange_d := Classical.choose_spec impl_InRange_h

theorem impl_InRange_p (a0 : dRange) (a1 : ByteArray) : Par (impl_InRange_k a0 a1) := by
  rw [impl_InRange_e]
  unfold impl_InRange_d
  exact (par_bif (par_ret _) (par_ret _))

def impl_Touches_b2 (x : q18T) (k : q18T ⊕ (q18T ⊕ q18T) → Option Res) : Option Res :=
    bif (decide (x.2.2.2.2.2.2.2.1 < x.2.2.2.2.2.2.1)) then
      if 0 ≤ x.2.2.2.2.2.2.2.1 ∧ x.2.2.2.2.2.2.2.1 < (x.2.2.2.2.2.1.length : Int) then
        impl_InRange_k x.2.2.2.2.2.2.2.2 ((rd (Ty.zero tWrite) x.2.2.2.2.2.1 x.2.2.2.2.2.2.2.1).1) (fun y5 =>
          bif y5 then
            k (.inr (.inl (x.1, true, x.2.2.1, x.2.2.2.1, x.2.2.2.2.1, x.2.2.2.2.2.1, x.2.2.2.2.2.2.1, x.2.2.2.2.2.2.2.1, x.2.2.2.2.2.2.2.2.1, x.2.2.2.2.2.2.2.2.2)))
          else
            k (.inl (x.1, x.2.1, x.2.2.1, x.2.2.2.1, x.2.2.2.2.1, x.2.2.2.2.2.1, x.2.2.2.2.2.2.1, (IntKind.wrap .i64 (x.2.2.2.2.2.2.2.1 + (1 : Int))), x.2.2.2.2.2.2.2.2.1, x.2.2.2.2.2.2.2.2.2)))
      else none
    else
      k (.inr (.inr (x.1, x.2.1, x.2.2.1, x.2.2.2.1, x.2.2.2.2.1, x.2.2.2.2.2.1, x.2.2.2.2.2.2.1, x.2.2.2.2.2.2.2.1, x.2.2.2.2.2.2.2.2.1, x.2.2.2.2.2.2.2.2.2)))

theorem impl_Touches_bp2 (x : q18T) : Par (impl_Touches_b2 x) := by
  unfold impl_Touches_b2
  exact (par_bif (par_ite (c := 0 ≤ x.2.2.2.2.2.2.2.1 ∧ x.2.2.2.2.2.2.2.1 < (x.2.2.2.2.2.1.length : Int)) ((impl_InRange_p x.2.2.2.2.2.2.2.2 ((rd (Ty.zero tWrite) x.2.2.2.2.2.1 x.2.2.2.2.2.2.2.1).1)).bind fun y5 => (par_bif (par_ret _) (par_ret _))) par_none) (par_ret _))

def impl_Touches_b0 (x : q19T) (k : q19T ⊕ (q19T ⊕ q19T) → Option Res) : Option Res :=
    bif (decide (x.2.2.2.2 < x.2.2.2.1)) then
      if 0 ≤ x.2.2.2.2 ∧ x.2.2.2.2 < (x.2.2.1.length : Int) then
        loopK impl_Touches_b2 Fuel (x.1, x.2.1, x.2.2.1, x.2.2.2.1, x.2.2.2.2, x.1, (x.1.length : Int), (0 : Int), (rd (Ty.zero tRange) x.2.2.1 x.2.2.2.2).1, (rd (Ty.zero tRange) x.2.2.1 x.2.2.2.2).2) (Sum.elim (fun z3 =>
          k (.inr (.inr (z3.1, z3.2.1, z3.2.2.1, z3.2.2.2.1, z3.2.2.2.2.1)))) (fun z4 =>
          k (.inl (z4.1, z4.2.1, z4.2.2.1, z4.2.2.2.1, (IntKind.wrap .i64 (z4.2.2.2.2.1 + (1 : Int)))))))
      else none
    else
      k (.inr (.inl (x.1, x.2.1, x.2.2.1, x.2.2.2.1, x.2.2.2.2)))

theorem impl_Touches_bp0 (x : q19T) : Par (impl_Touches_b0 x) := by
  unfold impl_Touches_b0
  exact (par_bif (par_ite (c := 0 ≤ x.2.2.2.2 ∧ x.2.2.2.2 < (x.2.2.1.length : Int)) ((par_loop impl_Touches_bp2 Fuel (x.1, x.2.1, x.2.2.1, x.2.2.2.1, x.2.2.2.2, x.1, (x.1.length : Int), (0 : Int), (rd (Ty.zero tRange) x.2.2.1 x.2.2.2.2).1, (rd (Ty.zero tRange) x.2.2.1 x.2.2.2.2).2)).bind2 (fun z3 => (par_ret _)) (fun z4 => (par_ret _))) par_none) (par_ret _))

def impl_Touches_d (a0 : (List dRange)) (a1 : (List dWrite)) (k : Bool → Option Res) : Option Res :=
  loopK impl_Touches_b0 Fuel (a1, false, a0, (a0.length : Int), (0 : Int)) (Sum.elim (fun _ =>
    k false) (fun z2 =>
    k z2.2.1))

theorem impl_Touches_h : ∃ g : (List dRange) → (List dWrite) → (Bool → Option Res) → Option Res, g = impl_Touches_d := ⟨_, rfl⟩
def impl_Touches_k : (List dRange) → (List dWrite) → (Bool → Option Res) → Option Res := Classical.choose impl_Touches_h
theorem impl_Touches_e : impl_Touches_k = impl_Touches_d := Classical.choose_spec impl_Touches_h

theorem impl_Touches_p (a0 : (List dRange)) (a1 : (List dWrite)) : Par (impl_Touches_k a0 a1) := by
  rw [impl_Touches_e]
  unfold impl_Touches_d
  exact ((par_loop impl_Touches_bp0 Fuel (a1, false, a0, (a0.length : Int), (0 : Int))).bind2 (fun z1 => (par_ret _)) (fun z2 => (par_ret _)))

def impl_Ahead_d (a0 : dTxn) (a1 : dTxn) (k : Bool → Option Res) : Option Res :=
  impl_Beside_k a0 a1 (fun y1 =>
    bif y1 then
      impl_Touches_k a0.2.2.2.2.1 a1.2.2.2.2.2.1 (fun y2 =>
        k y2)
    else
      k false)

theorem impl_Ahead_h : ∃ g : dTxn → dTxn → (Bool → Option Res) → Option Res, g = impl_Ahead_d := ⟨_, rfl⟩
def impl_Ahead_k : dTxn → dTxn → (Bool → Option Res) → Option Res := Classical.choose impl_Ahead_h
theorem impl_Ahead_e : impl_Ahead_k = impl_Ahead_d := Classical.choose_spec impl_Ahead_h

theorem impl_Ahead_p (a0 : dTxn) (a1 : dTxn) : Par (impl_Ahead_k a0 a1) := by
  rw [impl_Ahead_e]
  unfold impl_Ahead_d
  exact ((impl_Beside_p a0 a1).bind fun y1 => (par_bif ((impl_Touches_p a0.2.2.2.2.1 a1.2.2.2.2.2.1).bind fun y2 => (par_ret _)) (par_ret _)))

def impl_isDone_d (a0 : dTxn) (k : Bool → Option Res) : Option Res :=
  k (a0.2.1 == (3 : Int))

theorem impl_isDone_h : ∃ g : dTxn → (Bool → Option Res) → Option Res, g = impl_isDone_d := ⟨_, rfl⟩
def impl_isDone_k : dTxn → (Bool → Option Res) → Option Res := Classical.choose impl_isDone_h
theorem impl_isDone_e : impl_isDone_k = impl_isDone_d := Classical.choose_spec impl_isDone_h

theorem impl_isDone_p (a0 : dTxn) : Par (impl_isDone_k a0) := by
  rw [impl_isDone_e]
  unfold impl_isDone_d
  exact (par_ret _)

def impl_InOf_1_d (a0 : dTxn) (a1 : Int) (a2 : Int) (a3 : Int) (a4 : Int) (a5 : (List dRange)) (a6 : (List dWrite)) (a7 : Bool) (a8 : ByteArray) (k : q29T → Option Res) : Option Res :=
  impl_isReady_k a0 (fun y1 =>
    bif y1 then
      impl_Ahead_k a0 (a1, (a2, (a3, (a4, (a5, (a6, (a7, a8))))))) (fun y2 =>
        k (y2, a1, a2, a3, a4, a5, a6, a7, a8))
    else
      impl_isDone_k a0 (fun y3 =>
        bif y3 then
          impl_Ahead_k a0 (a1, (a2, (a3, (a4, (a5, (a6, (a7, a8))))))) (fun y4 =>
            k (y4, a1, a2, a3, a4, a5, a6, a7, a8))
        else
          k (false, a1, a2, a3, a4, a5, a6, a7, a8)))

theorem impl_InOf_1_h : ∃ g : dTxn → Int → Int → Int → Int → (List dRange) → (List dWrite) → Bool → ByteArray → (q29T → Option Res) → Option Res, g = impl_InOf_1_d := ⟨_, rfl⟩
def impl_InOf_1_k : dTxn → Int → Int → Int → Int → (List dRange) → (List dWrite) → Bool → ByteArray → (q29T → Option Res) → Option Res := Classical.choose impl_InOf_1_h
theorem impl_InOf_1_e : impl_InOf_1_k = impl_InOf_1_d := Classical.choose_spec impl_InOf_1_h

theorem impl_InOf_1_p (a0 : dTxn) (a1 : Int) (a2 : Int) (a3 : Int) (a4 : Int) (a5 : (List dRange)) (a6 : (List dWrite)) (a7 : Bool) (a8 : ByteArray) : Par (impl_InOf_1_k a0 a1 a2 a3 a4 a5 a6 a7 a8) := by
  rw [impl_InOf_1_e]
  unfold impl_InOf_1_d
  exact ((impl_isReady_p a0).bind fun y1 => (par_bif ((impl_Ahead_p a0 (a1, (a2, (a3, (a4, (a5, (a6, (a7, a8)))))))).bind fun y2 => (par_ret _)) ((impl_isDone_p a0).bind fun y3 => (par_bif ((impl_Ahead_p a0 (a1, (a2, (a3, (a4, (a5, (a6, (a7, a8)))))))).bind fun y4 => (par_ret _)) (par_ret _)))))

def slices_IndexFunc_Txn_InOf_1_b0 (x : q15T) (k : q15T ⊕ (q15T ⊕ q15T) → Option Res) : Option Res :=
    bif (decide (x.2.2.2.1 < x.2.2.1)) then
      if 0 ≤ x.2.2.2.1 ∧ x.2.2.2.1 < (x.1.length : Int) then
        impl_InOf_1_k (rd (Ty.zero tTxn) x.1 x.2.2.2.1) x.2.2.2.2.1 x.2.2.2.2.2.1 x.2.2.2.2.2.2.1 x.2.2.2.2.2.2.2.1 x.2.2.2.2.2.2.2.2.1 x.2.2.2.2.2.2.2.2.2.1 x.2.2.2.2.2.2.2.2.2.2.1 x.2.2.2.2.2.2.2.2.2.2.2 (fun y3 =>
          bif y3.1 then
            k (.inr (.inl (x.1, x.2.2.2.1, x.2.2.1, x.2.2.2.1, y3.2.1, y3.2.2.1, y3.2.2.2.1, y3.2.2.2.2.1, y3.2.2.2.2.2.1, y3.2.2.2.2.2.2.1, y3.2.2.2.2.2.2.2.1, y3.2.2.2.2.2.2.2.2)))
          else
            k (.inl (x.1, x.2.1, x.2.2.1, (IntKind.wrap .i64 (x.2.2.2.1 + (1 : Int))), y3.2.1, y3.2.2.1, y3.2.2.2.1, y3.2.2.2.2.1, y3.2.2.2.2.2.1, y3.2.2.2.2.2.2.1, y3.2.2.2.2.2.2.2.1, y3.2.2.2.2.2.2.2.2)))
      else none
    else
      k (.inr (.inr (x.1, x.2.1, x.2.2.1, x.2.2.2.1, x.2.2.2.2.1, x.2.2.2.2.2.1, x.2.2.2.2.2.2.1, x.2.2.2.2.2.2.2.1, x.2.2.2.2.2.2.2.2.1, x.2.2.2.2.2.2.2.2.2.1, x.2.2.2.2.2.2.2.2.2.2.1, x.2.2.2.2.2.2.2.2.2.2.2)))

theorem slices_IndexFunc_Txn_InOf_1_bp0 (x : q15T) : Par (slices_IndexFunc_Txn_InOf_1_b0 x) := by
  unfold slices_IndexFunc_Txn_InOf_1_b0
  exact (par_bif (par_ite (c := 0 ≤ x.2.2.2.1 ∧ x.2.2.2.1 < (x.1.length : Int)) ((impl_InOf_1_p (rd (Ty.zero tTxn) x.1 x.2.2.2.1) x.2.2.2.2.1 x.2.2.2.2.2.1 x.2.2.2.2.2.2.1 x.2.2.2.2.2.2.2.1 x.2.2.2.2.2.2.2.2.1 x.2.2.2.2.2.2.2.2.2.1 x.2.2.2.2.2.2.2.2.2.2.1 x.2.2.2.2.2.2.2.2.2.2.2).bind fun y3 => (par_bif (par_ret _) (par_ret _))) par_none) (par_ret _))

def slices_IndexFunc_Txn_InOf_1_d (a0 : (List dTxn)) (a1 : Int) (a2 : Int) (a3 : Int) (a4 : Int) (a5 : (List dRange)) (a6 : (List dWrite)) (a7 : Bool) (a8 : ByteArray) (k : q42T → Option Res) : Option Res :=
  loopK slices_IndexFunc_Txn_InOf_1_b0 Fuel (a0, (0 : Int), (a0.length : Int), (0 : Int), a1, a2, a3, a4, a5, a6, a7, a8) (Sum.elim (fun z1 =>
    k (z1.2.1, z1.2.2.2.2.1, z1.2.2.2.2.2.1, z1.2.2.2.2.2.2.1, z1.2.2.2.2.2.2.2.1, z1.2.2.2.2.2.2.2.2.1, z1.2.2.2.2.2.2.2.2.2.1, z1.2.2.2.2.2.2.2.2.2.2.1, z1.2.2.2.2.2.2.2.2.2.2.2)) (fun z2 =>
    k ((-1 : Int), z2.2.2.2.2.1, z2.2.2.2.2.2.1, z2.2.2.2.2.2.2.1, z2.2.2.2.2.2.2.2.1, z2.2.2.2.2.2.2.2.2.1, z2.2.2.2.2.2.2.2.2.2.1, z2.2.2.2.2.2.2.2.2.2.2.1, z2.2.2.2.2.2.2.2.2.2.2.2)))

theorem slices_IndexFunc_Txn_InOf_1_h : ∃ g : (List dTxn) → Int → Int → Int → Int → (List dRange) → (List dWrite) → Bool → ByteArray → (q42T → Option Res) → Option Res, g = slices_IndexFunc_Txn_InOf_1_d := ⟨_, rfl⟩
def slices_IndexFunc_Txn_InOf_1_k : (List dTxn) → Int → Int → Int → Int → (List dRange) → (List dWrite) → Bool → ByteArray → (q42T → Option Res) → Option Res := Classical.choose slices_IndexFunc_Txn_InOf_1_h
theorem slices_IndexFunc_Txn_InOf_1_e : slices_IndexFunc_Txn_InOf_1_k = slices_IndexFunc_Txn_InOf_1_d := Classical.choose_spec slices_IndexFunc_Txn_InOf_1_h

theorem slices_IndexFunc_Txn_InOf_1_p (a0 : (List dTxn)) (a1 : Int) (a2 : Int) (a3 : Int) (a4 : Int) (a5 : (List dRange)) (a6 : (List dWrite)) (a7 : Bool) (a8 : ByteArray) : Par (slices_IndexFunc_Txn_InOf_1_k a0 a1 a2 a3 a4 a5 a6 a7 a8) := by
  rw [slices_IndexFunc_Txn_InOf_1_e]
  unfold slices_IndexFunc_Txn_InOf_1_d
  exact ((par_loop slices_IndexFunc_Txn_InOf_1_bp0 Fuel (a0, (0 : Int), (a0.length : Int), (0 : Int), a1, a2, a3, a4, a5, a6, a7, a8)).bind2 (fun z1 => (par_ret _)) (fun z2 => (par_ret _)))

def slices_ContainsFunc_Txn_InOf_1_d (a0 : (List dTxn)) (a1 : Int) (a2 : Int) (a3 : Int) (a4 : Int) (a5 : (List dRange)) (a6 : (List dWrite)) (a7 : Bool) (a8 : ByteArray) (k : q29T → Option Res) : Option Res :=
  slices_IndexFunc_Txn_InOf_1_k a0 a1 a2 a3 a4 a5 a6 a7 a8 (fun y1 =>
    k ((decide (y1.1 ≥ (0 : Int))), y1.2.1, y1.2.2.1, y1.2.2.2.1, y1.2.2.2.2.1, y1.2.2.2.2.2.1, y1.2.2.2.2.2.2.1, y1.2.2.2.2.2.2.2.1, y1.2.2.2.2.2.2.2.2))

theorem slices_ContainsFunc_Txn_InOf_1_h : ∃ g : (List dTxn) → Int → Int → Int → Int → (List dRange) → (List dWrite) → Bool → ByteArray → (q29T → Option Res) → Option Res, g = slices_ContainsFunc_Txn_InOf_1_d := ⟨_, rfl⟩
def slices_ContainsFunc_Txn_InOf_1_k : (List dTxn) → Int → Int → Int → Int → (List dRange) → (List dWrite) → Bool → ByteArray → (q29T → Option Res) → Option Res := Classical.choose slices_ContainsFunc_Txn_InOf_1_h
theorem slices_ContainsFunc_Txn_InOf_1_e : slices_ContainsFunc_Txn_InOf_1_k = slices_ContainsFunc_Txn_InOf_1_d := Classical.choose_spec slices_ContainsFunc_Txn_InOf_1_h

theorem slices_ContainsFunc_Txn_InOf_1_p (a0 : (List dTxn)) (a1 : Int) (a2 : Int) (a3 : Int) (a4 : Int) (a5 : (List dRange)) (a6 : (List dWrite)) (a7 : Bool) (a8 : ByteArray) : Par (slices_ContainsFunc_Txn_InOf_1_k a0 a1 a2 a3 a4 a5 a6 a7 a8) := by
  rw [slices_ContainsFunc_Txn_InOf_1_e]
  unfold slices_ContainsFunc_Txn_InOf_1_d
  exact ((slices_IndexFunc_Txn_InOf_1_p a0 a1 a2 a3 a4 a5 a6 a7 a8).bind fun y1 => (par_ret _))

def impl_some_InOf_1_d (a0 : (List dTxn)) (a1 : Int) (a2 : Int) (a3 : Int) (a4 : Int) (a5 : (List dRange)) (a6 : (List dWrite)) (a7 : Bool) (a8 : ByteArray) (k : q29T → Option Res) : Option Res :=
  slices_ContainsFunc_Txn_InOf_1_k a0 a1 a2 a3 a4 a5 a6 a7 a8 (fun y1 =>
    k (y1.1, y1.2.1, y1.2.2.1, y1.2.2.2.1, y1.2.2.2.2.1, y1.2.2.2.2.2.1, y1.2.2.2.2.2.2.1, y1.2.2.2.2.2.2.2.1, y1.2.2.2.2.2.2.2.2))

theorem impl_some_InOf_1_h : ∃ g : (List dTxn) → Int → Int → Int → Int → (List dRange) → (List dWrite) → Bool → ByteArray → (q29T → Option Res) → Option Res, g = impl_some_InOf_1_d := ⟨_, rfl⟩
def impl_some_InOf_1_k : (List dTxn) → Int → Int → Int → Int → (List dRange) → (List dWrite) → Bool → ByteArray → (q29T → Option Res) → Option Res := Classical.choose impl_some_InOf_1_h
theorem impl_some_InOf_1_e : impl_some_InOf_1_k = impl_some_InOf_1_d := Classical.choose_spec impl_some_InOf_1_h

theorem impl_some_InOf_1_p (a0 : (List dTxn)) (a1 : Int) (a2 : Int) (a3 : Int) (a4 : Int) (a5 : (List dRange)) (a6 : (List dWrite)) (a7 : Bool) (a8 : ByteArray) : Par (impl_some_InOf_1_k a0 a1 a2 a3 a4 a5 a6 a7 a8) := by
  rw [impl_some_InOf_1_e]
  unfold impl_some_InOf_1_d
  exact ((slices_ContainsFunc_Txn_InOf_1_p a0 a1 a2 a3 a4 a5 a6 a7 a8).bind fun y1 => (par_ret _))

def impl_InOf_d (a0 : dTxn) (a1 : (List dTxn)) (k : Bool → Option Res) : Option Res :=
  impl_some_InOf_1_k a1 a0.1 a0.2.1 a0.2.2.1 a0.2.2.2.1 a0.2.2.2.2.1 a0.2.2.2.2.2.1 a0.2.2.2.2.2.2.1 a0.2.2.2.2.2.2.2 (fun y1 =>
    k y1.1)

theorem impl_InOf_h : ∃ g : dTxn → (List dTxn) → (Bool → Option Res) → Option Res, g = impl_InOf_d := ⟨_, rfl⟩
def impl_InOf_k : dTxn → (List dTxn) → (Bool → Option Res) → Option Res := Classical.choose impl_InOf_h
theorem impl_InOf_e : impl_InOf_k = impl_InOf_d := Classical.choose_spec impl_InOf_h

theorem impl_InOf_p (a0 : dTxn) (a1 : (List dTxn)) : Par (impl_InOf_k a0 a1) := by
  rw [impl_InOf_e]
  unfold impl_InOf_d
  exact ((impl_some_InOf_1_p a1 a0.1 a0.2.1 a0.2.2.1 a0.2.2.2.1 a0.2.2.2.2.1 a0.2.2.2.2.2.1 a0.2.2.2.2.2.2.1 a0.2.2.2.2.2.2.2).bind fun y1 => (par_ret _))

def impl_OutOf_1_d (a0 : dTxn) (a1 : Int) (a2 : Int) (a3 : Int) (a4 : Int) (a5 : (List dRange)) (a6 : (List dWrite)) (a7 : Bool) (a8 : ByteArray) (k : q29T → Option Res) : Option Res :=
  impl_isDone_k a0 (fun y1 =>
    bif y1 then
      impl_Ahead_k (a1, (a2, (a3, (a4, (a5, (a6, (a7, a8))))))) a0 (fun y2 =>
        k (y2, a1, a2, a3, a4, a5, a6, a7, a8))
    else
      k (false, a1, a2, a3, a4, a5, a6, a7, a8))

theorem impl_OutOf_1_h : ∃ g : dTxn → Int → Int → Int → Int → (List dRange) → (List dWrite) → Bool → ByteArray → (q29T → Option Res) → Option Res, g = impl_OutOf_1_d := ⟨_, rfl⟩
def impl_OutOf_1_k : dTxn → Int → Int → Int → Int → (List dRange) → (List dWrite) → Bool → ByteArray → (q29T → Option Res) → Option Res := Classical.choose impl_OutOf_1_h
theorem impl_OutOf_1_e : impl_OutOf_1_k = impl_OutOf_1_d := Classical.choose_spec impl_OutOf_1_h

theorem impl_OutOf_1_p (a0 : dTxn) (a1 : Int) (a2 : Int) (a3 : Int) (a4 : Int) (a5 : (List dRange)) (a6 : (List dWrite)) (a7 : Bool) (a8 : ByteArray) : Par (impl_OutOf_1_k a0 a1 a2 a3 a4 a5 a6 a7 a8) := by
  rw [impl_OutOf_1_e]
  unfold impl_OutOf_1_d
  exact ((impl_isDone_p a0).bind fun y1 => (par_bif ((impl_Ahead_p (a1, (a2, (a3, (a4, (a5, (a6, (a7, a8))))))) a0).bind fun y2 => (par_ret _)) (par_ret _)))

def slices_IndexFunc_Txn_OutOf_1_b0 (x : q15T) (k : q15T ⊕ (q15T ⊕ q15T) → Option Res) : Option Res :=
    bif (decide (x.2.2.2.1 < x.2.2.1)) then
      if 0 ≤ x.2.2.2.1 ∧ x.2.2.2.1 < (x.1.length : Int) then
        impl_OutOf_1_k (rd (Ty.zero tTxn) x.1 x.2.2.2.1) x.2.2.2.2.1 x.2.2.2.2.2.1 x.2.2.2.2.2.2.1 x.2.2.2.2.2.2.2.1 x.2.2.2.2.2.2.2.2.1 x.2.2.2.2.2.2.2.2.2.1 x.2.2.2.2.2.2.2.2.2.2.1 x.2.2.2.2.2.2.2.2.2.2.2 (fun y3 =>
          bif y3.1 then
            k (.inr (.inl (x.1, x.2.2.2.1, x.2.2.1, x.2.2.2.1, y3.2.1, y3.2.2.1, y3.2.2.2.1, y3.2.2.2.2.1, y3.2.2.2.2.2.1, y3.2.2.2.2.2.2.1, y3.2.2.2.2.2.2.2.1, y3.2.2.2.2.2.2.2.2)))
          else
            k (.inl (x.1, x.2.1, x.2.2.1, (IntKind.wrap .i64 (x.2.2.2.1 + (1 : Int))), y3.2.1, y3.2.2.1, y3.2.2.2.1, y3.2.2.2.2.1, y3.2.2.2.2.2.1, y3.2.2.2.2.2.2.1, y3.2.2.2.2.2.2.2.1, y3.2.2.2.2.2.2.2.2)))
      else none
    else
      k (.inr (.inr (x.1, x.2.1, x.2.2.1, x.2.2.2.1, x.2.2.2.2.1, x.2.2.2.2.2.1, x.2.2.2.2.2.2.1, x.2.2.2.2.2.2.2.1, x.2.2.2.2.2.2.2.2.1, x.2.2.2.2.2.2.2.2.2.1, x.2.2.2.2.2.2.2.2.2.2.1, x.2.2.2.2.2.2.2.2.2.2.2)))

theorem slices_IndexFunc_Txn_OutOf_1_bp0 (x : q15T) : Par (slices_IndexFunc_Txn_OutOf_1_b0 x) := by
  unfold slices_IndexFunc_Txn_OutOf_1_b0
  exact (par_bif (par_ite (c := 0 ≤ x.2.2.2.1 ∧ x.2.2.2.1 < (x.1.length : Int)) ((impl_OutOf_1_p (rd (Ty.zero tTxn) x.1 x.2.2.2.1) x.2.2.2.2.1 x.2.2.2.2.2.1 x.2.2.2.2.2.2.1 x.2.2.2.2.2.2.2.1 x.2.2.2.2.2.2.2.2.1 x.2.2.2.2.2.2.2.2.2.1 x.2.2.2.2.2.2.2.2.2.2.1 x.2.2.2.2.2.2.2.2.2.2.2).bind fun y3 => (par_bif (par_ret _) (par_ret _))) par_none) (par_ret _))

def slices_IndexFunc_Txn_OutOf_1_d (a0 : (List dTxn)) (a1 : Int) (a2 : Int) (a3 : Int) (a4 : Int) (a5 : (List dRange)) (a6 : (List dWrite)) (a7 : Bool) (a8 : ByteArray) (k : q42T → Option Res) : Option Res :=
  loopK slices_IndexFunc_Txn_OutOf_1_b0 Fuel (a0, (0 : Int), (a0.length : Int), (0 : Int), a1, a2, a3, a4, a5, a6, a7, a8) (Sum.elim (fun z1 =>
    k (z1.2.1, z1.2.2.2.2.1, z1.2.2.2.2.2.1, z1.2.2.2.2.2.2.1, z1.2.2.2.2.2.2.2.1, z1.2.2.2.2.2.2.2.2.1, z1.2.2.2.2.2.2.2.2.2.1, z1.2.2.2.2.2.2.2.2.2.2.1, z1.2.2.2.2.2.2.2.2.2.2.2)) (fun z2 =>
    k ((-1 : Int), z2.2.2.2.2.1, z2.2.2.2.2.2.1, z2.2.2.2.2.2.2.1, z2.2.2.2.2.2.2.2.1, z2.2.2.2.2.2.2.2.2.1, z2.2.2.2.2.2.2.2.2.2.1, z2.2.2.2.2.2.2.2.2.2.2.1, z2.2.2.2.2.2.2.2.2.2.2.2)))

theorem slices_IndexFunc_Txn_OutOf_1_h : ∃ g : (List dTxn) → Int → Int → Int → Int → (List dRange) → (List dWrite) → Bool → ByteArray → (q42T → Option Res) → Option Res, g = slices_IndexFunc_Txn_OutOf_1_d := ⟨_, rfl⟩
def slices_IndexFunc_Txn_OutOf_1_k : (List dTxn) → Int → Int → Int → Int → (List dRange) → (List dWrite) → Bool → ByteArray → (q42T → Option Res) → Option Res := Classical.choose slices_IndexFunc_Txn_OutOf_1_h
theorem slices_IndexFunc_Txn_OutOf_1_e : slices_IndexFunc_Txn_OutOf_1_k = slices_IndexFunc_Txn_OutOf_1_d := Classical.choose_spec slices_IndexFunc_Txn_OutOf_1_h

theorem slices_IndexFunc_Txn_OutOf_1_p (a0 : (List dTxn)) (a1 : Int) (a2 : Int) (a3 : Int) (a4 : Int) (a5 : (List dRange)) (a6 : (List dWrite)) (a7 : Bool) (a8 : ByteArray) : Par (slices_IndexFunc_Txn_OutOf_1_k a0 a1 a2 a3 a4 a5 a6 a7 a8) := by
  rw [slices_IndexFunc_Txn_OutOf_1_e]
  unfold slices_IndexFunc_Txn_OutOf_1_d
  exact ((par_loop slices_IndexFunc_Txn_OutOf_1_bp0 Fuel (a0, (0 : Int), (a0.length : Int), (0 : Int), a1, a2, a3, a4, a5, a6, a7, a8)).bind2 (fun z1 => (par_ret _)) (fun z2 => (par_ret _)))

def slices_ContainsFunc_Txn_OutOf_1_d (a0 : (List dTxn)) (a1 : Int) (a2 : Int) (a3 : Int) (a4 : Int) (a5 : (List dRange)) (a6 : (List dWrite)) (a7 : Bool) (a8 : ByteArray) (k : q29T → Option Res) : Option Res :=
  slices_IndexFunc_Txn_OutOf_1_k a0 a1 a2 a3 a4 a5 a6 a7 a8 (fun y1 =>
    k ((decide (y1.1 ≥ (0 : Int))), y1.2.1, y1.2.2.1, y1.2.2.2.1, y1.2.2.2.2.1, y1.2.2.2.2.2.1, y1.2.2.2.2.2.2.1, y1.2.2.2.2.2.2.2.1, y1.2.2.2.2.2.2.2.2))

theorem slices_ContainsFunc_Txn_OutOf_1_h : ∃ g : (List dTxn) → Int → Int → Int → Int → (List dRange) → (List dWrite) → Bool → ByteArray → (q29T → Option Res) → Option Res, g = slices_ContainsFunc_Txn_OutOf_1_d := ⟨_, rfl⟩
def slices_ContainsFunc_Txn_OutOf_1_k : (List dTxn) → Int → Int → Int → Int → (List dRange) → (List dWrite) → Bool → ByteArray → (q29T → Option Res) → Option Res := Classical.choose slices_ContainsFunc_Txn_OutOf_1_h
theorem slices_ContainsFunc_Txn_OutOf_1_e : slices_ContainsFunc_Txn_OutOf_1_k = slices_ContainsFunc_Txn_OutOf_1_d := Classical.choose_spec slices_ContainsFunc_Txn_OutOf_1_h

theorem slices_ContainsFunc_Txn_OutOf_1_p (a0 : (List dTxn)) (a1 : Int) (a2 : Int) (a3 : Int) (a4 : Int) (a5 : (List dRange)) (a6 : (List dWrite)) (a7 : Bool) (a8 : ByteArray) : Par (slices_ContainsFunc_Txn_OutOf_1_k a0 a1 a2 a3 a4 a5 a6 a7 a8) := by
  rw [slices_ContainsFunc_Txn_OutOf_1_e]
  unfold slices_ContainsFunc_Txn_OutOf_1_d
  exact ((slices_IndexFunc_Txn_OutOf_1_p a0 a1 a2 a3 a4 a5 a6 a7 a8).bind fun y1 => (par_ret _))

def impl_some_OutOf_1_d (a0 : (List dTxn)) (a1 : Int) (a2 : Int) (a3 : Int) (a4 : Int) (a5 : (List dRange)) (a6 : (List dWrite)) (a7 : Bool) (a8 : ByteArray) (k : q29T → Option Res) : Option Res :=
  slices_ContainsFunc_Txn_OutOf_1_k a0 a1 a2 a3 a4 a5 a6 a7 a8 (fun y1 =>
    k (y1.1, y1.2.1, y1.2.2.1, y1.2.2.2.1, y1.2.2.2.2.1, y1.2.2.2.2.2.1, y1.2.2.2.2.2.2.1, y1.2.2.2.2.2.2.2.1, y1.2.2.2.2.2.2.2.2))

theorem impl_some_OutOf_1_h : ∃ g : (List dTxn) → Int → Int → Int → Int → (List dRange) → (List dWrite) → Bool → ByteArray → (q29T → Option Res) → Option Res, g = impl_some_OutOf_1_d := ⟨_, rfl⟩
def impl_some_OutOf_1_k : (List dTxn) → Int → Int → Int → Int → (List dRange) → (List dWrite) → Bool → ByteArray → (q29T → Option Res) → Option Res := Classical.choose impl_some_OutOf_1_h
theorem impl_some_OutOf_1_e : impl_some_OutOf_1_k = impl_some_OutOf_1_d := Classical.choose_spec impl_some_OutOf_1_h

theorem impl_some_OutOf_1_p (a0 : (List dTxn)) (a1 : Int) (a2 : Int) (a3 : Int) (a4 : Int) (a5 : (List dRange)) (a6 : (List dWrite)) (a7 : Bool) (a8 : ByteArray) : Par (impl_some_OutOf_1_k a0 a1 a2 a3 a4 a5 a6 a7 a8) := by
  rw [impl_some_OutOf_1_e]
  unfold impl_some_OutOf_1_d
  exact ((slices_ContainsFunc_Txn_OutOf_1_p a0 a1 a2 a3 a4 a5 a6 a7 a8).bind fun y1 => (par_ret _))

def impl_OutOf_d (a0 : dTxn) (a1 : (List dTxn)) (k : Bool → Option Res) : Option Res :=
  impl_some_OutOf_1_k a1 a0.1 a0.2.1 a0.2.2.1 a0.2.2.2.1 a0.2.2.2.2.1 a0.2.2.2.2.2.1 a0.2.2.2.2.2.2.1 a0.2.2.2.2.2.2.2 (fun y1 =>
    k y1.1)

theorem impl_OutOf_h : ∃ g : dTxn → (List dTxn) → (Bool → Option Res) → Option Res, g = impl_OutOf_d := ⟨_, rfl⟩
def impl_OutOf_k : dTxn → (List dTxn) → (Bool → Option Res) → Option Res := Classical.choose impl_OutOf_h
theorem impl_OutOf_e : impl_OutOf_k = impl_OutOf_d := Classical.choose_spec impl_OutOf_h

theorem impl_OutOf_p (a0 : dTxn) (a1 : (List dTxn)) : Par (impl_OutOf_k a0 a1) := by
  rw [impl_OutOf_e]
  unfold impl_OutOf_d
  exact ((impl_some_OutOf_1_p a1 a0.1 a0.2.1 a0.2.2.1 a0.2.2.2.1 a0.2.2.2.2.1 a0.2.2.2.2.2.1 a0.2.2.2.2.2.2.1 a0.2.2.2.2.2.2.2).bind fun y1 => (par_ret _))

def spec_l07Copy_d (a0 : dTxn) (k : q39T → Option Res) : Option Res :=
  if ([] : List dRange).length + a0.2.2.2.2.1.length ≤ VE.maxLen then
    if ([] : List dWrite).length + a0.2.2.2.2.2.1.length ≤ VE.maxLen then
      k (a0.1, a0.2.1, a0.2.2.1, a0.2.2.2.1, a0.2.2.2.2.2.2.1, a0.2.2.2.2.2.2.2, (([] : List dRange) ++ a0.2.2.2.2.1), (([] : List dWrite) ++ a0.2.2.2.2.2.1))
    else none
  else none

theorem spec_l07Copy_h : ∃ g : dTxn → (q39T → Option Res) → Option Res, g = spec_l07Copy_d := ⟨_, rfl⟩
def spec_l07Copy_k : dTxn → (q39T → Option Res) → Option Res := Classical.choose spec_l07Copy_h
theorem spec_l07Copy_e : spec_l07Copy_k = spec_l07Copy_d := Classical.choose_spec spec_l07Copy_h

theorem spec_l07Copy_p (a0 : dTxn) : Par (spec_l07Copy_k a0) := by
  rw [spec_l07Copy_e]
  unfold spec_l07Copy_d
  exact (par_ite (c := ([] : List dRange).length + a0.2.2.2.2.1.length ≤ VE.maxLen) (par_ite (c := ([] : List dWrite).length + a0.2.2.2.2.2.1.length ≤ VE.maxLen) (par_ret _) par_none) par_none)

def spec_l01Long_b0 (x : (Int × Int × Int × (List Int))) (k : (Int × Int × Int × (List Int)) ⊕ (Int × Int × Int × (List Int)) → Option Res) : Option Res :=
    bif (decide (x.2.2.1 < x.1)) then
      if 0 ≤ x.2.2.1 ∧ x.2.2.1 < (x.2.2.2.length : Int) then
        k (.inl (x.1, x.2.1, (IntKind.wrap .i64 (x.2.2.1 + (1 : Int))), (x.2.2.2.set x.2.2.1.toNat x.2.1)))
      else none
    else
      k (.inr (x.1, x.2.1, x.2.2.1, x.2.2.2))

theorem spec_l01Long_bp0 (x : (Int × Int × Int × (List Int))) : Par (spec_l01Long_b0 x) := by
  unfold spec_l01Long_b0
  exact (par_bif (par_ite (c := 0 ≤ x.2.2.1 ∧ x.2.2.1 < (x.2.2.2.length : Int)) (par_ret _) par_none) (par_ret _))

def spec_l01Long_d (a0 : Int) (a1 : Int) (k : ByteArray → Option Res) : Option Res :=
  if 0 ≤ a0 ∧ a0 ≤ a0 ∧ a0 ≤ (VE.maxLen : Int) then
    loopK spec_l01Long_b0 Fuel (a0, a1, (0 : Int), (List.replicate a0.toNat (Ty.zero (.int .u8)))) (fun z1 =>
      k (bytesOf z1.2.2.2))
  else none

theorem spec_l01Long_h : ∃ g : Int → Int → (ByteArray → Option Res) → Option Res, g = spec_l01Long_d := ⟨_, rfl⟩
def spec_l01Long_k : Int → Int → (ByteArray → Option Res) → Option Res := Classical.choose spec_l01Long_h
theorem spec_l01Long_e : spec_l01Long_k = spec_l01Long_d := Classical.choose_spec spec_l01Long_h

theorem spec_l01Long_p (a0 : Int) (a1 : Int) : Par (spec_l01Long_k a0 a1) := by
  rw [spec_l01Long_e]
  unfold spec_l01Long_d
  exact (par_ite (c := 0 ≤ a0 ∧ a0 ≤ a0 ∧ a0 ≤ (VE.maxLen : Int)) ((par_loop spec_l01Long_bp0 Fuel (a0, a1, (0 : Int), (List.replicate a0.toNat (Ty.zero (.int .u8))))).bind fun z1 => (par_ret _)) par_none)

def spec_l05Any_d (a0 : (List Int)) (a1 : Int) (a2 : Int) (k : q32T → Option Res) : Option Res :=
  spec_l05Write_k a0 a1 a2 (fun y1 =>
    spec_l01Below_k (8 : Int) y1.2.2.2.1 y1.2.2.2.2.1 y1.2.2.2.2.2 (fun y2 =>
      bif (y2.1 == (0 : Int)) then
        spec_l01Pick_k [(⟨#[]⟩ : ByteArray), (⟨#[65]⟩ : ByteArray), (⟨#[97, 98, 99, 100]⟩ : ByteArray), (⟨#[97, 98, 99]⟩ : ByteArray)] y2.2.1 y2.2.2.1 y2.2.2.2 (fun y3 =>
          k (y3.1, y1.2.1, y1.2.2.1, y3.2.1, y3.2.2.1, y3.2.2.2))
      else
        bif (y2.1 == (1 : Int)) then
          spec_l01Below_k (2 : Int) y2.2.1 y2.2.2.1 y2.2.2.2 (fun y4 =>
            spec_l01Long_k (IntKind.wrap .i64 ((12 : Int) + y4.1)) (97 : Int) (fun y5 =>
              k (y1.1, y5, y1.2.2.1, y4.2.1, y4.2.2.1, y4.2.2.2)))
        else
          bif (y2.1 == (2 : Int)) then
            k (y1.1, y1.2.1, true, y2.2.1, y2.2.2.1, y2.2.2.2)
          else
            k (y1.1, y1.2.1, y1.2.2.1, y2.2.1, y2.2.2.1, y2.2.2.2)))

theorem spec_l05Any_h : ∃ g : (List Int) → Int → Int → (q32T → Option Res) → Option Res, g = spec_l05Any_d := ⟨_, rfl⟩
def spec_l05Any_k : (List Int) → Int → Int → (q32T → Option Res) → Option Res := Classical.choose spec_l05Any_h
theorem spec_l05Any_e : spec_l05Any_k = spec_l05Any_d := Classical.choose_spec spec_l05Any_h

theorem spec_l05Any_p (a0 : (List Int)) (a1 : Int) (a2 : Int) : Par (spec_l05Any_k a0 a1 a2) := by
  rw [spec_l05Any_e]
  unfold spec_l05Any_d
  exact ((spec_l05Write_p a0 a1 a2).bind fun y1 => ((spec_l01Below_p (8 : Int) y1.2.2.2.1 y1.2.2.2.2.1 y1.2.2.2.2.2).bind fun y2 => (par_bif ((spec_l01Pick_p [(⟨#[]⟩ : ByteArray), (⟨#[65]⟩ : ByteArray), (⟨#[97, 98, 99, 100]⟩ : ByteArray), (⟨#[97, 98, 99]⟩ : ByteArray)] y2.2.1 y2.2.2.1 y2.2.2.2).bind fun y3 => (par_ret _)) (par_bif ((spec_l01Below_p (2 : Int) y2.2.1 y2.2.2.1 y2.2.2.2).bind fun y4 => ((spec_l01Long_p (IntKind.wrap .i64 ((12 : Int) + y4.1)) (97 : Int)).bind fun y5 => (par_ret _))) (par_bif (par_ret _) (par_ret _))))))

def spec_l07Any_d (a0 : (List Int)) (a1 : Int) (a2 : Int) (k : q37T → Option Res) : Option Res :=
  spec_l01Below_k (12 : Int) a0 a1 a2 (fun y1 =>
    spec_l01Below_k (60 : Int) y1.2.1 y1.2.2.1 y1.2.2.2 (fun y2 =>
      spec_l07Txn_k y2.2.1 y2.2.2.1 y2.2.2.2 (fun y3 =>
        spec_l07Copy_k (y3.1, (y3.2.1, (y3.2.2.1, (y3.2.2.2.1, (y3.2.2.2.2.2.2.2.2.2.1, (y3.2.2.2.2.2.2.2.2.2.2, (y3.2.2.2.2.1, y3.2.2.2.2.2.1))))))) (fun y4 =>
          bif (y1.1 == (0 : Int)) then
            if 0 ≤ (y2.1.tmod (3 : Int)) ∧ (y2.1.tmod (3 : Int)) < ([(0 : Int), (9999 : Int), (10000 : Int)].length : Int) then
              k (([(0 : Int), (9999 : Int), (10000 : Int)].getD (y2.1.tmod (3 : Int)).toNat (Ty.zero (.int .i64))), y4.2.1, y4.2.2.1, y4.2.2.2.1, y4.2.2.2.2.1, y4.2.2.2.2.2.1, y3.2.2.2.2.2.2.1, y3.2.2.2.2.2.2.2.1, y3.2.2.2.2.2.2.2.2.1, y4.2.2.2.2.2.2.1, y4.2.2.2.2.2.2.2)
            else none
          else
            bif (y1.1 == (1 : Int)) then
              k (y4.1, (y2.1.tmod (5 : Int)), y4.2.2.1, y4.2.2.2.1, y4.2.2.2.2.1, y4.2.2.2.2.2.1, y3.2.2.2.2.2.2.1, y3.2.2.2.2.2.2.2.1, y3.2.2.2.2.2.2.2.2.1, y4.2.2.2.2.2.2.1, y4.2.2.2.2.2.2.2)
            else
              bif (y1.1 == (2 : Int)) then
                k (y4.1, y4.2.1, y4.2.2.1, (y2.1.tmod (4 : Int)), y4.2.2.2.2.1, y4.2.2.2.2.2.1, y3.2.2.2.2.2.2.1, y3.2.2.2.2.2.2.2.1, y3.2.2.2.2.2.2.2.2.1, y4.2.2.2.2.2.2.1, y4.2.2.2.2.2.2.2)
              else
                bif (y1.1 == (3 : Int)) then
                  if 0 ≤ (y2.1.tmod (3 : Int)) ∧ (y2.1.tmod (3 : Int)) < ([(⟨#[]⟩ : ByteArray), (⟨#[65]⟩ : ByteArray), (⟨#[97, 98]⟩ : ByteArray)].length : Int) then
                    k (y4.1, y4.2.1, y4.2.2.1, y4.2.2.2.1, y4.2.2.2.2.1, ([(⟨#[]⟩ : ByteArray), (⟨#[65]⟩ : ByteArray), (⟨#[97, 98]⟩ : ByteArray)].getD (y2.1.tmod (3 : Int)).toNat (Ty.zero .str)), y3.2.2.2.2.2.2.1, y3.2.2.2.2.2.2.2.1, y3.2.2.2.2.2.2.2.2.1, y4.2.2.2.2.2.2.1, y4.2.2.2.2.2.2.2)
                  else none
                else
                  bif (y1.1 == (4 : Int)) then
                    if y4.2.2.2.2.2.2.1.length + [((⟨#[98]⟩ : ByteArray), (⟨#[97]⟩ : ByteArray))].length ≤ VE.maxLen then
                      k (y4.1, y4.2.1, y4.2.2.1, y4.2.2.2.1, y4.2.2.2.2.1, y4.2.2.2.2.2.1, y3.2.2.2.2.2.2.1, y3.2.2.2.2.2.2.2.1, y3.2.2.2.2.2.2.2.2.1, (y4.2.2.2.2.2.2.1 ++ [((⟨#[98]⟩ : ByteArray), (⟨#[97]⟩ : ByteArray))]), y4.2.2.2.2.2.2.2)
                    else none
                  else
                    bif (y1.1 == (5 : Int)) then
                      spec_l05Any_k y3.2.2.2.2.2.2.1 y3.2.2.2.2.2.2.2.1 y3.2.2.2.2.2.2.2.2.1 (fun y5 =>
                        if y4.2.2.2.2.2.2.2.length + [(y5.1, (y5.2.1, y5.2.2.1))].length ≤ VE.maxLen then
                          k (y4.1, y4.2.1, y4.2.2.1, y4.2.2.2.1, y4.2.2.2.2.1, y4.2.2.2.2.2.1, y5.2.2.2.1, y5.2.2.2.2.1, y5.2.2.2.2.2, y4.2.2.2.2.2.2.1, (y4.2.2.2.2.2.2.2 ++ [(y5.1, (y5.2.1, y5.2.2.1))]))
                        else none)
                    else
                      bif (y1.1 == (6 : Int)) then
                        k (y4.1, y4.2.1, y4.2.2.1, y4.2.2.2.1, true, y4.2.2.2.2.2.1, y3.2.2.2.2.2.2.1, y3.2.2.2.2.2.2.2.1, y3.2.2.2.2.2.2.2.2.1, y4.2.2.2.2.2.2.1, y4.2.2.2.2.2.2.2)
                      else
                        k (y4.1, y4.2.1, y4.2.2.1, y4.2.2.2.1, y4.2.2.2.2.1, y4.2.2.2.2.2.1, y3.2.2.2.2.2.2.1, y3.2.2.2.2.2.2.2.1, y3.2.2.2.2.2.2.2.2.1, y4.2.2.2.2.2.2.1, y4.2.2.2.2.2.2.2)))))

theorem spec_l07Any_h : ∃ g : (List Int) → Int → Int → (q37T → Option Res) → Option Res, g = spec_l07Any_d := ⟨_, rfl⟩
def spec_l07Any_k : (List Int) → Int → Int → (q37T → Option Res) → Option Res := Classical.choose spec_l07Any_h
theorem spec_l07Any_e : spec_l07Any_k = spec_l07Any_d := Classical.choose_spec spec_l07Any_h

theorem spec_l07Any_p (a0 : (List Int)) (a1 : Int) (a2 : Int) : Par (spec_l07Any_k a0 a1 a2) := by
  rw [spec_l07Any_e]
  unfold spec_l07Any_d
  exact ((spec_l01Below_p (12 : Int) a0 a1 a2).bind fun y1 => ((spec_l01Below_p (60 : Int) y1.2.1 y1.2.2.1 y1.2.2.2).bind fun y2 => ((spec_l07Txn_p y2.2.1 y2.2.2.1 y2.2.2.2).bind fun y3 => ((spec_l07Copy_p (y3.1, (y3.2.1, (y3.2.2.1, (y3.2.2.2.1, (y3.2.2.2.2.2.2.2.2.2.1, (y3.2.2.2.2.2.2.2.2.2.2, (y3.2.2.2.2.1, y3.2.2.2.2.2.1)))))))).bind fun y4 => (par_bif (par_ite (c := 0 ≤ (y2.1.tmod (3 : Int)) ∧ (y2.1.tmod (3 : Int)) < ([(0 : Int), (9999 : Int), (10000 : Int)].length : Int)) (par_ret _) par_none) (par_bif (par_ret _) (par_bif (par_ret _) (par_bif (par_ite (c := 0 ≤ (y2.1.tmod (3 : Int)) ∧ (y2.1.tmod (3 : Int)) < ([(⟨#[]⟩ : ByteArray), (⟨#[65]⟩ : ByteArray), (⟨#[97, 98]⟩ : ByteArray)].length : Int)) (par_ret _) par_none) (par_bif (par_ite (c := y4.2.2.2.2.2.2.1.length + [((⟨#[98]⟩ : ByteArray), (⟨#[97]⟩ : ByteArray))].length ≤ VE.maxLen) (par_ret _) par_none) (par_bif ((spec_l05Any_p y3.2.2.2.2.2.2.1 y3.2.2.2.2.2.2.2.1 y3.2.2.2.2.2.2.2.2.1).bind fun y5 => (par_ite (c := y4.2.2.2.2.2.2.2.length + [(y5.1, (y5.2.1, y5.2.2.1))].length ≤ VE.maxLen) (par_ret _) par_none)) (par_bif (par_ret _) (par_ret _))))))))))))

def spec_l08Some_d (a0 : (List Int)) (k : q38T → Option Res) : Option Res :=
  spec_l01New_k a0 (fun y1 =>
    spec_l07Any_k y1.1 y1.2.1 y1.2.2 (fun y2 =>
      spec_l08List_k y2.2.2.2.2.2.2.1 y2.2.2.2.2.2.2.2.1 y2.2.2.2.2.2.2.2.2.1 (fun y3 =>
        k (y2.1, y2.2.1, y2.2.2.1, y2.2.2.2.1, y2.2.2.2.2.1, y2.2.2.2.2.2.1, y2.2.2.2.2.2.2.2.2.2.1, y2.2.2.2.2.2.2.2.2.2.2, y3.2.2.2))))

theorem spec_l08Some_h : ∃ g : (List Int) → (q38T → Option Res) → Option Res, g = spec_l08Some_d := ⟨_, rfl⟩
def spec_l08Some_k : (List Int) → (q38T → Option Res) → Option Res := Classical.choose spec_l08Some_h
theorem spec_l08Some_e : spec_l08Some_k = spec_l08Some_d := Classical.choose_spec spec_l08Some_h

theorem spec_l08Some_p (a0 : (List Int)) : Par (spec_l08Some_k a0) := by
  rw [spec_l08Some_e]
  unfold spec_l08Some_d
  exact ((spec_l01New_p a0).bind fun y1 => ((spec_l07Any_p y1.1 y1.2.1 y1.2.2).bind fun y2 => ((spec_l08List_p y2.2.2.2.2.2.2.1 y2.2.2.2.2.2.2.2.1 y2.2.2.2.2.2.2.2.2.1).bind fun y3 => (par_ret _))))

def spec_DrawDanger_d (a0 : (List Int)) (k : q38T → Option Res) : Option Res :=
  spec_l08Some_k a0 (fun y1 =>
    k (y1.1, y1.2.1, y1.2.2.1, y1.2.2.2.1, y1.2.2.2.2.1, y1.2.2.2.2.2.1, y1.2.2.2.2.2.2.1, y1.2.2.2.2.2.2.2.1, y1.2.2.2.2.2.2.2.2))

theorem spec_DrawDanger_h : ∃ g : (List Int) → (q38T → Option Res) → Option Res, g = spec_DrawDanger_d := ⟨_, rfl⟩
def spec_DrawDanger_k : (List Int) → (q38T → Option Res) → Option Res := Classical.choose spec_DrawDanger_h
theorem spec_DrawDanger_e : spec_DrawDanger_k = spec_DrawDanger_d := Classical.choose_spec spec_DrawDanger_h

theorem spec_DrawDanger_p (a0 : (List Int)) : Par (spec_DrawDanger_k a0) := by
  rw [spec_DrawDanger_e]
  unfold spec_DrawDanger_d
  exact ((spec_l08Some_p a0).bind fun y1 => (par_ret _))

def impl_Danger_1_d (a0 : dTxn) (a1 : Int) (a2 : Int) (a3 : Int) (a4 : Int) (a5 : (List dRange)) (a6 : (List dWrite)) (a7 : Bool) (a8 : ByteArray) (k : q29T → Option Res) : Option Res :=
  impl_isReady_k a0 (fun y1 =>
    bif y1 then
      bif a0.2.2.2.2.2.2.1 then
        impl_Ahead_k (a1, (a2, (a3, (a4, (a5, (a6, (a7, a8))))))) a0 (fun y2 =>
          k (y2, a1, a2, a3, a4, a5, a6, a7, a8))
      else
        k (false, a1, a2, a3, a4, a5, a6, a7, a8)
    else
      impl_isDone_k a0 (fun y3 =>
        bif y3 then
          bif a0.2.2.2.2.2.2.1 then
            impl_Ahead_k (a1, (a2, (a3, (a4, (a5, (a6, (a7, a8))))))) a0 (fun y4 =>
              k (y4, a1, a2, a3, a4, a5, a6, a7, a8))
          else
            k (false, a1, a2, a3, a4, a5, a6, a7, a8)
        else
          k (false, a1, a2, a3, a4, a5, a6, a7, a8)))

theorem impl_Danger_1_h : ∃ g : dTxn → Int → Int → Int → Int → (List dRange) → (List dWrite) → Bool → ByteArray → (q29T → Option Res) → Option Res, g = impl_Danger_1_d := ⟨_, rfl⟩
def impl_Danger_1_k : dTxn → Int → Int → Int → Int → (List dRange) → (List dWrite) → Bool → ByteArray → (q29T → Option Res) → Option Res := Classical.choose impl_Danger_1_h
theorem impl_Danger_1_e : impl_Danger_1_k = impl_Danger_1_d := Classical.choose_spec impl_Danger_1_h

theorem impl_Danger_1_p (a0 : dTxn) (a1 : Int) (a2 : Int) (a3 : Int) (a4 : Int) (a5 : (List dRange)) (a6 : (List dWrite)) (a7 : Bool) (a8 : ByteArray) : Par (impl_Danger_1_k a0 a1 a2 a3 a4 a5 a6 a7 a8) := by
  rw [impl_Danger_1_e]
  unfold impl_Danger_1_d
  exact ((impl_isReady_p a0).bind fun y1 => (par_bif (par_bif ((impl_Ahead_p (a1, (a2, (a3, (a4, (a5, (a6, (a7, a8))))))) a0).bind fun y2 => (par_ret _)) (par_ret _)) ((impl_isDone_p a0).bind fun y3 => (par_bif (par_bif ((impl_Ahead_p (a1, (a2, (a3, (a4, (a5, (a6, (a7, a8))))))) a0).bind fun y4 => (par_ret _)) (par_ret _)) (par_ret _)))))

def slices_IndexFunc_Txn_Danger_1_b0 (x : q15T) (k : q15T ⊕ (q15T ⊕ q15T) → Option Res) : Option Res :=
    bif (decide (x.2.2.2.1 < x.2.2.1)) then
      if 0 ≤ x.2.2.2.1 ∧ x.2.2.2.1 < (x.1.length : Int) then
        impl_Danger_1_k (rd (Ty.zero tTxn) x.1 x.2.2.2.1) x.2.2.2.2.1 x.2.2.2.2.2.1 x.2.2.2.2.2.2.1 x.2.2.2.2.2.2.2.1 x.2.2.2.2.2.2.2.2.1 x.2.2.2.2.2.2.2.2.2.1 x.2.2.2.2.2.2.2.2.2.2.1 x.2.2.2.2.2.2.2.2.2.2.2 (fun y3 =>
          bif y3.1 then
            k (.inr (.inl (x.1, x.2.2.2.1, x.2.2.1, x.2.2.2.1, y3.2.1, y3.2.2.1, y3.2.2.2.1, y3.2.2.2.2.1, y3.2.2.2.2.2.1, y3.2.2.2.2.2.2.1, y3.2.2.2.2.2.2.2.1, y3.2.2.2.2.2.2.2.2)))
          else
            k (.inl (x.1, x.2.1, x.2.2.1, (IntKind.wrap .i64 (x.2.2.2.1 + (1 : Int))), y3.2.1, y3.2.2.1, y3.2.2.2.1, y3.2.2.2.2.1, y3.2.2.2.2.2.1, y3.2.2.2.2.2.2.1, y3.2.2.2.2.2.2.2.1, y3.2.2.2.2.2.2.2.2)))
      else none
    else
      k (.inr (.inr (x.1, x.2.1, x.2.2.1, x.2.2.2.1, x.2.2.2.2.1, x.2.2.2.2.2.1, x.2.2.2.2.2.2.1, x.2.2.2.2.2.2.2.1, x.2.2.2.2.2.2.2.2.1, x.2.2.2.2.2.2.2.2.2.1, x.2.2.2.2.2.2.2.2.2.2.1, x.2.2.2.2.2.2.2.2.2.2.2)))

theorem slices_IndexFunc_Txn_Danger_1_bp0 (x : q15T) : Par (slices_IndexFunc_Txn_Danger_1_b0 x) := by
  unfold slices_IndexFunc_Txn_Danger_1_b0
  exact (par_bif (par_ite (c := 0 ≤ x.2.2.2.1 ∧ x.2.2.2.1 < (x.1.length : Int)) ((impl_Danger_1_p (rd (Ty.zero tTxn) x.1 x.2.2.2.1) x.2.2.2.2.1 x.2.2.2.2.2.1 x.2.2.2.2.2.2.1 x.2.2.2.2.2.2.2.1 x.2.2.2.2.2.2.2.2.1 x.2.2.2.2.2.2.2.2.2.1 x.2.2.2.2.2.2.2.2.2.2.1 x.2.2.2.2.2.2.2.2.2.2.2).bind fun y3 => (par_bif (par_ret _) (par_ret _))) par_none) (par_ret _))

def slices_IndexFunc_Txn_Danger_1_d (a0 : (List dTxn)) (a1 : Int) (a2 : Int) (a3 : Int) (a4 : Int) (a5 : (List dRange)) (a6 : (List dWrite)) (a7 : Bool) (a8 : ByteArray) (k : q42T → Option Res) : Option Res :=
  loopK slices_IndexFunc_Txn_Danger_1_b0 Fuel (a0, (0 : Int), (a0.length : Int), (0 : Int), a1, a2, a3, a4, a5, a6, a7, a8) (Sum.elim (fun z1 =>
    k (z1.2.1, z1.2.2.2.2.1, z1.2.2.2.2.2.1, z1.2.2.2.2.2.2.1, z1.2.2.2.2.2.2.2.1, z1.2.2.2.2.2.2.2.2.1, z1.2.2.2.2.2.2.2.2.2.1, z1.2.2.2.2.2.2.2.2.2.2.1, z1.2.2.2.2.2.2.2.2.2.2.2)) (fun z2 =>
    k ((-1 : Int), z2.2.2.2.2.1, z2.2.2.2.2.2.1, z2.2.2.2.2.2.2.1, z2.2.2.2.2.2.2.2.1, z2.2.2.2.2.2.2.2.2.1, z2.2.2.2.2.2.2.2.2.2.1, z2.2.2.2.2.2.2.2.2.2.2.1, z2.2.2.2.2.2.2.2.2.2.2.2)))

theorem slices_IndexFunc_Txn_Danger_1_h : ∃ g : (List dTxn) → Int → Int → Int → Int → (List dRange) → (List dWrite) → Bool → ByteArray → (q42T → Option Res) → Option Res, g = slices_IndexFunc_Txn_Danger_1_d := ⟨_, rfl⟩
def slices_IndexFunc_Txn_Danger_1_k : (List dTxn) → Int → Int → Int → Int → (List dRange) → (List dWrite) → Bool → ByteArray → (q42T → Option Res) → Option Res := Classical.choose slices_IndexFunc_Txn_Danger_1_h
theorem slices_IndexFunc_Txn_Danger_1_e : slices_IndexFunc_Txn_Danger_1_k = slices_IndexFunc_Txn_Danger_1_d := Classical.choose_spec slices_IndexFunc_Txn_Danger_1_h

theorem slices_IndexFunc_Txn_Danger_1_p (a0 : (List dTxn)) (a1 : Int) (a2 : Int) (a3 : Int) (a4 : Int) (a5 : (List dRange)) (a6 : (List dWrite)) (a7 : Bool) (a8 : ByteArray) : Par (slices_IndexFunc_Txn_Danger_1_k a0 a1 a2 a3 a4 a5 a6 a7 a8) := by
  rw [slices_IndexFunc_Txn_Danger_1_e]
  unfold slices_IndexFunc_Txn_Danger_1_d
  exact ((par_loop slices_IndexFunc_Txn_Danger_1_bp0 Fuel (a0, (0 : Int), (a0.length : Int), (0 : Int), a1, a2, a3, a4, a5, a6, a7, a8)).bind2 (fun z1 => (par_ret _)) (fun z2 => (par_ret _)))

def slices_ContainsFunc_Txn_Danger_1_d (a0 : (List dTxn)) (a1 : Int) (a2 : Int) (a3 : Int) (a4 : Int) (a5 : (List dRange)) (a6 : (List dWrite)) (a7 : Bool) (a8 : ByteArray) (k : q29T → Option Res) : Option Res :=
  slices_IndexFunc_Txn_Danger_1_k a0 a1 a2 a3 a4 a5 a6 a7 a8 (fun y1 =>
    k ((decide (y1.1 ≥ (0 : Int))), y1.2.1, y1.2.2.1, y1.2.2.2.1, y1.2.2.2.2.1, y1.2.2.2.2.2.1, y1.2.2.2.2.2.2.1, y1.2.2.2.2.2.2.2.1, y1.2.2.2.2.2.2.2.2))

theorem slices_ContainsFunc_Txn_Danger_1_h : ∃ g : (List dTxn) → Int → Int → Int → Int → (List dRange) → (List dWrite) → Bool → ByteArray → (q29T → Option Res) → Option Res, g = slices_ContainsFunc_Txn_Danger_1_d := ⟨_, rfl⟩
def slices_ContainsFunc_Txn_Danger_1_k : (List dTxn) → Int → Int → Int → Int → (List dRange) → (List dWrite) → Bool → ByteArray → (q29T → Option Res) → Option Res := Classical.choose slices_ContainsFunc_Txn_Danger_1_h
theorem slices_ContainsFunc_Txn_Danger_1_e : slices_ContainsFunc_Txn_Danger_1_k = slices_ContainsFunc_Txn_Danger_1_d := Classical.choose_spec slices_ContainsFunc_Txn_Danger_1_h

theorem slices_ContainsFunc_Txn_Danger_1_p (a0 : (List dTxn)) (a1 : Int) (a2 : Int) (a3 : Int) (a4 : Int) (a5 : (List dRange)) (a6 : (List dWrite)) (a7 : Bool) (a8 : ByteArray) : Par (slices_ContainsFunc_Txn_Danger_1_k a0 a1 a2 a3 a4 a5 a6 a7 a8) := by
  rw [slices_ContainsFunc_Txn_Danger_1_e]
  unfold slices_ContainsFunc_Txn_Danger_1_d
  exact ((slices_IndexFunc_Txn_Danger_1_p a0 a1 a2 a3 a4 a5 a6 a7 a8).bind fun y1 => (par_ret _))

def impl_some_Danger_1_d (a0 : (List dTxn)) (a1 : Int) (a2 : Int) (a3 : Int) (a4 : Int) (a5 : (List dRange)) (a6 : (List dWrite)) (a7 : Bool) (a8 : ByteArray) (k : q29T → Option Res) : Option Res :=
  slices_ContainsFunc_Txn_Danger_1_k a0 a1 a2 a3 a4 a5 a6 a7 a8 (fun y1 =>
    k (y1.1, y1.2.1, y1.2.2.1, y1.2.2.2.1, y1.2.2.2.2.1, y1.2.2.2.2.2.1, y1.2.2.2.2.2.2.1, y1.2.2.2.2.2.2.2.1, y1.2.2.2.2.2.2.2.2))

theorem impl_some_Danger_1_h : ∃ g : (List dTxn) → Int → Int → Int → Int → (List dRange) → (List dWrite) → Bool → ByteArray → (q29T → Option Res) → Option Res, g = impl_some_Danger_1_d := ⟨_, rfl⟩
def impl_some_Danger_1_k : (List dTxn) → Int → Int → Int → Int → (List dRange) → (List dWrite) → Bool → ByteArray → (q29T → Option Res) → Option Res := Classical.choose impl_some_Danger_1_h
theorem impl_some_Danger_1_e : impl_some_Danger_1_k = impl_some_Danger_1_d := Classical.choose_spec impl_some_Danger_1_h

theorem impl_some_Danger_1_p (a0 : (List dTxn)) (a1 : Int) (a2 : Int) (a3 : Int) (a4 : Int) (a5 : (List dRange)) (a6 : (List dWrite)) (a7 : Bool) (a8 : ByteArray) : Par (impl_some_Danger_1_k a0 a1 a2 a3 a4 a5 a6 a7 a8) := by
  rw [impl_some_Danger_1_e]
  unfold impl_some_Danger_1_d
  exact ((slices_ContainsFunc_Txn_Danger_1_p a0 a1 a2 a3 a4 a5 a6 a7 a8).bind fun y1 => (par_ret _))

def impl_Danger_2_1_d (a0 : dTxn) (a1 : Int) (a2 : Int) (a3 : Int) (a4 : Int) (a5 : (List dRange)) (a6 : (List dWrite)) (a7 : Bool) (a8 : ByteArray) (k : q29T → Option Res) : Option Res :=
  impl_isReady_k a0 (fun y1 =>
    bif y1 then
      impl_Ahead_k a0 (a1, (a2, (a3, (a4, (a5, (a6, (a7, a8))))))) (fun y2 =>
        k (y2, a1, a2, a3, a4, a5, a6, a7, a8))
    else
      k (false, a1, a2, a3, a4, a5, a6, a7, a8))

theorem impl_Danger_2_1_h : ∃ g : dTxn → Int → Int → Int → Int → (List dRange) → (List dWrite) → Bool → ByteArray → (q29T → Option Res) → Option Res, g = impl_Danger_2_1_d := ⟨_, rfl⟩
def impl_Danger_2_1_k : dTxn → Int → Int → Int → Int → (List dRange) → (List dWrite) → Bool → ByteArray → (q29T → Option Res) → Option Res := Classical.choose impl_Danger_2_1_h
theorem impl_Danger_2_1_e : impl_Danger_2_1_k = impl_Danger_2_1_d := Classical.choose_spec impl_Danger_2_1_h

theorem impl_Danger_2_1_p (a0 : dTxn) (a1 : Int) (a2 : Int) (a3 : Int) (a4 : Int) (a5 : (List dRange)) (a6 : (List dWrite)) (a7 : Bool) (a8 : ByteArray) : Par (impl_Danger_2_1_k a0 a1 a2 a3 a4 a5 a6 a7 a8) := by
  rw [impl_Danger_2_1_e]
  unfold impl_Danger_2_1_d
  exact ((impl_isReady_p a0).bind fun y1 => (par_bif ((impl_Ahead_p a0 (a1, (a2, (a3, (a4, (a5, (a6, (a7, a8)))))))).bind fun y2 => (par_ret _)) (par_ret _)))

def slices_IndexFunc_Txn_Danger_2_1_b0 (x : q15T) (k : q15T ⊕ (q15T ⊕ q15T) → Option Res) : Option Res :=
    bif (decide (x.2.2.2.1 < x.2.2.1)) then
      if 0 ≤ x.2.2.2.1 ∧ x.2.2.2.1 < (x.1.length : Int) then
        impl_Danger_2_1_k (rd (Ty.zero tTxn) x.1 x.2.2.2.1) x.2.2.2.2.1 x.2.2.2.2.2.1 x.2.2.2.2.2.2.1 x.2.2.2.2.2.2.2.1 x.2.2.2.2.2.2.2.2.1 x.2.2.2.2.2.2.2.2.2.1 x.2.2.2.2.2.2.2.2.2.2.1 x.2.2.2.2.2.2.2.2.2.2.2 (fun y3 =>
          bif y3.1 then
            k (.inr (.inl (x.1, x.2.2.2.1, x.2.2.1, x.2.2.2.1, y3.2.1, y3.2.2.1, y3.2.2.2.1, y3.2.2.2.2.1, y3.2.2.2.2.2.1, y3.2.2.2.2.2.2.1, y3.2.2.2.2.2.2.2.1, y3.2.2.2.2.2.2.2.2)))
          else
            k (.inl (x.1, x.2.1, x.2.2.1, (IntKind.wrap .i64 (x.2.2.2.1 + (1 : Int))), y3.2.1, y3.2.2.1, y3.2.2.2.1, y3.2.2.2.2.1, y3.2.2.2.2.2.1, y3.2.2.2.2.2.2.1, y3.2.2.2.2.2.2.2.1, y3.2.2.2.2.2.2.2.2)))
      else none
    else
      k (.inr (.inr (x.1, x.2.1, x.2.2.1, x.2.2.2.1, x.2.2.2.2.1, x.2.2.2.2.2.1, x.2.2.2.2.2.2.1, x.2.2.2.2.2.2.2.1, x.2.2.2.2.2.2.2.2.1, x.2.2.2.2.2.2.2.2.2.1, x.2.2.2.2.2.2.2.2.2.2.1, x.2.2.2.2.2.2.2.2.2.2.2)))

theorem slices_IndexFunc_Txn_Danger_2_1_bp0 (x : q15T) : Par (slices_IndexFunc_Txn_Danger_2_1_b0 x) := by
  unfold slices_IndexFunc_Txn_Danger_2_1_b0
  exact (par_bif (par_ite (c := 0 ≤ x.2.2.2.1 ∧ x.2.2.2.1 < (x.1.length : Int)) ((impl_Danger_2_1_p (rd (Ty.zero tTxn) x.1 x.2.2.2.1) x.2.2.2.2.1 x.2.2.2.2.2.1 x.2.2.2.2.2.2.1 x.2.2.2.2.2.2.2.1 x.2.2.2.2.2.2.2.2.1 x.2.2.2.2.2.2.2.2.2.1 x.2.2.2.2.2.2.2.2.2.2.1 x.2.2.2.2.2.2.2.2.2.2.2).bind fun y3 => (par_bif (par_ret _) (par_ret _))) par_none) (par_ret _))

def slices_IndexFunc_Txn_Danger_2_1_d (a0 : (List dTxn)) (a1 : Int) (a2 : Int) (a3 : Int) (a4 : Int) (a5 : (List dRange)) (a6 : (List dWrite)) (a7 : Bool) (a8 : ByteArray) (k : q42T → Option Res) : Option Res :=
  loopK slices_IndexFunc_Txn_Danger_2_1_b0 Fuel (a0, (0 : Int), (a0.length : Int), (0 : Int), a1, a2, a3, a4, a5, a6, a7, a8) (Sum.elim (fun z1 =>
    k (z1.2.1, z1.2.2.2.2.1, z1.2.2.2.2.2.1, z1.2.2.2.2.2.2.1, z1.2.2.2.2.2.2.2.1, z1.2.2.2.2.2.2.2.2.1, z1.2.2.2.2.2.2.2.2.2.1, z1.2.2.2.2.2.2.2.2.2.2.1, z1.2.2.2.2.2.2.2.2.2.2.2)) (fun z2 =>
    k ((-1 : Int), z2.2.2.2.2.1, z2.2.2.2.2.2.1, z2.2.2.2.2.2.2.1, z2.2.2.2.2.2.2.2.1, z2.2.2.2.2.2.2.2.2.1, z2.2.2.2.2.2.2.2.2.2.1, z2.2.2.2.2.2.2.2.2.2.2.1, z2.2.2.2.2.2.2.2.2.2.2.2)))

theorem slices_IndexFunc_Txn_Danger_2_1_h : ∃ g : (List dTxn) → Int → Int → Int → Int → (List dRange) → (List dWrite) → Bool → ByteArray → (q42T → Option Res) → Option Res, g = slices_IndexFunc_Txn_Danger_2_1_d := ⟨_, rfl⟩
def slices_IndexFunc_Txn_Danger_2_1_k : (List dTxn) → Int → Int → Int → Int → (List dRange) → (List dWrite) → Bool → ByteArray → (q42T → Option Res) → Option Res := Classical.choose slices_IndexFunc_Txn_Danger_2_1_h
theorem slices_IndexFunc_Txn_Danger_2_1_e : slices_IndexFunc_Txn_Danger_2_1_k = slices_IndexFunc_Txn_Danger_2_1_d := Classical.choose_spec slices_IndexFunc_Txn_Danger_2_1_h

theorem slices_IndexFunc_Txn_Danger_2_1_p (a0 : (List dTxn)) (a1 : Int) (a2 : Int) (a3 : Int) (a4 : Int) (a5 : (List dRange)) (a6 : (List dWrite)) (a7 : Bool) (a8 : ByteArray) : Par (slices_IndexFunc_Txn_Danger_2_1_k a0 a1 a2 a3 a4 a5 a6 a7 a8) := by
  rw [slices_IndexFunc_Txn_Danger_2_1_e]
  unfold slices_IndexFunc_Txn_Danger_2_1_d
  exact ((par_loop slices_IndexFunc_Txn_Danger_2_1_bp0 Fuel (a0, (0 : Int), (a0.length : Int), (0 : Int), a1, a2, a3, a4, a5, a6, a7, a8)).bind2 (fun z1 => (par_ret _)) (fun z2 => (par_ret _)))

def slices_ContainsFunc_Txn_Danger_2_1_d (a0 : (List dTxn)) (a1 : Int) (a2 : Int) (a3 : Int) (a4 : Int) (a5 : (List dRange)) (a6 : (List dWrite)) (a7 : Bool) (a8 : ByteArray) (k : q29T → Option Res) : Option Res :=
  slices_IndexFunc_Txn_Danger_2_1_k a0 a1 a2 a3 a4 a5 a6 a7 a8 (fun y1 =>
    k ((decide (y1.1 ≥ (0 : Int))), y1.2.1, y1.2.2.1, y1.2.2.2.1, y1.2.2.2.2.1, y1.2.2.2.2.2.1, y1.2.2.2.2.2.2.1, y1.2.2.2.2.2.2.2.1, y1.2.2.2.2.2.2.2.2))

theorem slices_ContainsFunc_Txn_Danger_2_1_h : ∃ g : (List dTxn) → Int → Int → Int → Int → (List dRange) → (List dWrite) → Bool → ByteArray → (q29T → Option Res) → Option Res, g = slices_ContainsFunc_Txn_Danger_2_1_d := ⟨_, rfl⟩
def slices_ContainsFunc_Txn_Danger_2_1_k : (List dTxn) → Int → Int → Int → Int → (List dRange) → (List dWrite) → Bool → ByteArray → (q29T → Option Res) → Option Res := Classical.choose slices_ContainsFunc_Txn_Danger_2_1_h
theorem slices_ContainsFunc_Txn_Danger_2_1_e : slices_ContainsFunc_Txn_Danger_2_1_k = slices_ContainsFunc_Txn_Danger_2_1_d := Classical.choose_spec slices_ContainsFunc_Txn_Danger_2_1_h

theorem slices_ContainsFunc_Txn_Danger_2_1_p (a0 : (List dTxn)) (a1 : Int) (a2 : Int) (a3 : Int) (a4 : Int) (a5 : (List dRange)) (a6 : (List dWrite)) (a7 : Bool) (a8 : ByteArray) : Par (slices_ContainsFunc_Txn_Danger_2_1_k a0 a1 a2 a3 a4 a5 a6 a7 a8) := by
  rw [slices_ContainsFunc_Txn_Danger_2_1_e]
  unfold slices_ContainsFunc_Txn_Danger_2_1_d
  exact ((slices_IndexFunc_Txn_Danger_2_1_p a0 a1 a2 a3 a4 a5 a6 a7 a8).bind fun y1 => (par_ret _))

def impl_some_Danger_2_1_d (a0 : (List dTxn)) (a1 : Int) (a2 : Int) (a3 : Int) (a4 : Int) (a5 : (List dRange)) (a6 : (List dWrite)) (a7 : Bool) (a8 : ByteArray) (k : q29T → Option Res) : Option Res :=
  slices_ContainsFunc_Txn_Danger_2_1_k a0 a1 a2 a3 a4 a5 a6 a7 a8 (fun y1 =>
    k (y1.1, y1.2.1, y1.2.2.1, y1.2.2.2.1, y1.2.2.2.2.1, y1.2.2.2.2.2.1, y1.2.2.2.2.2.2.1, y1.2.2.2.2.2.2.2.1, y1.2.2.2.2.2.2.2.2))

theorem impl_some_Danger_2_1_h : ∃ g : (List dTxn) → Int → Int → Int → Int → (List dRange) → (List dWrite) → Bool → ByteArray → (q29T → Option Res) → Option Res, g = impl_some_Danger_2_1_d := ⟨_, rfl⟩
def impl_some_Danger_2_1_k : (List dTxn) → Int → Int → Int → Int → (List dRange) → (List dWrite) → Bool → ByteArray → (q29T → Option Res) → Option Res := Classical.choose impl_some_Danger_2_1_h
theorem impl_some_Danger_2_1_e : impl_some_Danger_2_1_k = impl_some_Danger_2_1_d := Classical.choose_spec impl_some_Danger_2_1_h

theorem impl_some_Danger_2_1_p (a0 : (List dTxn)) (a1 : Int) (a2 : Int) (a3 : Int) (a4 : Int) (a5 : (List dRange)) (a6 : (List dWrite)) (a7 : Bool) (a8 : ByteArray) : Par (impl_some_Danger_2_1_k a0 a1 a2 a3 a4 a5 a6 a7 a8) := by
  rw [impl_some_Danger_2_1_e]
  unfold impl_some_Danger_2_1_d
  exact ((slices_ContainsFunc_Txn_Danger_2_1_p a0 a1 a2 a3 a4 a5 a6 a7 a8).bind fun y1 => (par_ret _))

def impl_Danger_2_j5000003 (x : q26T) (k : q26T → Option Res) : Option Res :=
    impl_Ahead_k (x.2.1, (x.2.2.1, (x.2.2.2.1, (x.2.2.2.2.1, (x.2.2.2.2.2.1, (x.2.2.2.2.2.2.1, (x.2.2.2.2.2.2.2.1, x.2.2.2.2.2.2.2.2.1))))))) x.2.2.2.2.2.2.2.2.2.2 (fun y4 =>
      bif y4 then
        k (true, x.2.1, x.2.2.1, x.2.2.2.1, x.2.2.2.2.1, x.2.2.2.2.2.1, x.2.2.2.2.2.2.1, x.2.2.2.2.2.2.2.1, x.2.2.2.2.2.2.2.2.1, x.2.2.2.2.2.2.2.2.2.1, x.2.2.2.2.2.2.2.2.2.2.1, x.2.2.2.2.2.2.2.2.2.2.2.1, x.2.2.2.2.2.2.2.2.2.2.2.2.1, x.2.2.2.2.2.2.2.2.2.2.2.2.2.1, x.2.2.2.2.2.2.2.2.2.2.2.2.2.2.1, x.2.2.2.2.2.2.2.2.2.2.2.2.2.2.2.1, x.2.2.2.2.2.2.2.2.2.2.2.2.2.2.2.2.1, x.2.2.2.2.2.2.2.2.2.2.2.2.2.2.2.2.2)
      else
        impl_some_Danger_2_1_k x.2.2.2.2.2.2.2.2.2.1 x.2.2.2.2.2.2.2.2.2.2.1 x.2.2.2.2.2.2.2.2.2.2.2.1 x.2.2.2.2.2.2.2.2.2.2.2.2.1 x.2.2.2.2.2.2.2.2.2.2.2.2.2.1 x.2.2.2.2.2.2.2.2.2.2.2.2.2.2.1 x.2.2.2.2.2.2.2.2.2.2.2.2.2.2.2.1 x.2.2.2.2.2.2.2.2.2.2.2.2.2.2.2.2.1 x.2.2.2.2.2.2.2.2.2.2.2.2.2.2.2.2.2 (fun y5 =>
          k (y5.1, x.2.1, x.2.2.1, x.2.2.2.1, x.2.2.2.2.1, x.2.2.2.2.2.1, x.2.2.2.2.2.2.1, x.2.2.2.2.2.2.2.1, x.2.2.2.2.2.2.2.2.1, x.2.2.2.2.2.2.2.2.2.1, y5.2.1, y5.2.2.1, y5.2.2.2.1, y5.2.2.2.2.1, y5.2.2.2.2.2.1, y5.2.2.2.2.2.2.1, y5.2.2.2.2.2.2.2.1, y5.2.2.2.2.2.2.2.2)))

theorem impl_Danger_2_jp5000003 (x : q26T) : Par (impl_Danger_2_j5000003 x) := by
  unfold impl_Danger_2_j5000003
  exact ((impl_Ahead_p (x.2.1, (x.2.2.1, (x.2.2.2.1, (x.2.2.2.2.1, (x.2.2.2.2.2.1, (x.2.2.2.2.2.2.1, (x.2.2.2.2.2.2.2.1, x.2.2.2.2.2.2.2.2.1))))))) x.2.2.2.2.2.2.2.2.2.2).bind fun y4 => (par_bif (par_ret _) ((impl_some_Danger_2_1_p x.2.2.2.2.2.2.2.2.2.1 x.2.2.2.2.2.2.2.2.2.2.1 x.2.2.2.2.2.2.2.2.2.2.2.1 x.2.2.2.2.2.2.2.2.2.2.2.2.1 x.2.2.2.2.2.2.2.2.2.2.2.2.2.1 x.2.2.2.2.2.2.2.2.2.2.2.2.2.2.1 x.2.2.2.2.2.2.2.2.2.2.2.2.2.2.2.1 x.2.2.2.2.2.2.2.2.2.2.2.2.2.2.2.2.1 x.2.2.2.2.2.2.2.2.2.2.2.2.2.2.2.2.2).bind fun y5 => (par_ret _))))

def impl_Danger_2_d (a0 : dTxn) (a1 : Int) (a2 : Int) (a3 : Int) (a4 : Int) (a5 : (List dRange)) (a6 : (List dWrite)) (a7 : Bool) (a8 : ByteArray) (a9 : (List dTxn)) (k : q27T → Option Res) : Option Res :=
  impl_isReady_k a0 (fun y1 =>
    bif (!y1) then
      k (false, a1, a2, a3, a4, a5, a6, a7, a8, a9)
    else
      impl_Ahead_k a0 (a1, (a2, (a3, (a4, (a5, (a6, (a7, a8))))))) (fun y2 =>
        bif (!y2) then
          k (false, a1, a2, a3, a4, a5, a6, a7, a8, a9)
        else
          impl_Danger_2_j5000003 (false, a1, a2, a3, a4, a5, a6, a7, a8, a9, a0.1, a0.2.1, a0.2.2.1, a0.2.2.2.1, a0.2.2.2.2.1, a0.2.2.2.2.2.1, a0.2.2.2.2.2.2.1, a0.2.2.2.2.2.2.2) (fun z3 =>
            k (z3.1, z3.2.1, z3.2.2.1, z3.2.2.2.1, z3.2.2.2.2.1, z3.2.2.2.2.2.1, z3.2.2.2.2.2.2.1, z3.2.2.2.2.2.2.2.1, z3.2.2.2.2.2.2.2.2.1, z3.2.2.2.2.2.2.2.2.2.1))))

theorem impl_Danger_2_h : ∃ g : dTxn → Int → Int → Int → Int → (List dRange) → (List dWrite) → Bool → ByteArray → (List dTxn) → (q27T → Option Res) → Option Res, g = impl_Danger_2_d := ⟨_, rfl⟩
def impl_Danger_2_k : dTxn → Int → Int → Int → Int → (List dRange) → (List dWrite) → Bool → ByteArray → (List dTxn) → (q27T → Option Res) → Option Res := Classical.choose impl_Danger_2_h
theorem impl_Danger_2_e : impl_Danger_2_k = impl_Danger_2_d := Classical.choose_spec impl_Danger_2_h

theorem impl_Danger_2_p (a0 : dTxn) (a1 : Int) (a2 : Int) (a3 : Int) (a4 : Int) (a5 : (List dRange)) (a6 : (List dWrite)) (a7 : Bool) (a8 : ByteArray) (a9 : (List dTxn)) : Par (impl_Danger_2_k a0 a1 a2 a3 a4 a5 a6 a7 a8 a9) := by
  rw [impl_Danger_2_e]
  unfold impl_Danger_2_d
  exact ((impl_isReady_p a0).bind fun y1 => (par_bif (par_ret _) ((impl_Ahead_p a0 (a1, (a2, (a3, (a4, (a5, (a6, (a7, a8)))))))).bind fun y2 => (par_bif (par_ret _) ((impl_Danger_2_jp5000003 (false, a1, a2, a3, a4, a5, a6, a7, a8, a9, a0.1, a0.2.1, a0.2.2.1, a0.2.2.2.1, a0.2.2.2.2.1, a0.2.2.2.2.2.1, a0.2.2.2.2.2.2.1, a0.2.2.2.2.2.2.2)).bind fun z3 => (par_ret _))))))

def slices_IndexFunc_Txn_Danger_2_b0 (x : q13T) (k : q13T ⊕ (q13T ⊕ q13T) → Option Res) : Option Res :=
    bif (decide (x.2.2.2.1 < x.2.2.1)) then
      if 0 ≤ x.2.2.2.1 ∧ x.2.2.2.1 < (x.1.length : Int) then
        impl_Danger_2_k (rd (Ty.zero tTxn) x.1 x.2.2.2.1) x.2.2.2.2.1 x.2.2.2.2.2.1 x.2.2.2.2.2.2.1 x.2.2.2.2.2.2.2.1 x.2.2.2.2.2.2.2.2.1 x.2.2.2.2.2.2.2.2.2.1 x.2.2.2.2.2.2.2.2.2.2.1 x.2.2.2.2.2.2.2.2.2.2.2.1 x.2.2.2.2.2.2.2.2.2.2.2.2 (fun y3 =>
          bif y3.1 then
            k (.inr (.inl (x.1, x.2.2.2.1, x.2.2.1, x.2.2.2.1, y3.2.1, y3.2.2.1, y3.2.2.2.1, y3.2.2.2.2.1, y3.2.2.2.2.2.1, y3.2.2.2.2.2.2.1, y3.2.2.2.2.2.2.2.1, y3.2.2.2.2.2.2.2.2.1, y3.2.2.2.2.2.2.2.2.2)))
          else
            k (.inl (x.1, x.2.1, x.2.2.1, (IntKind.wrap .i64 (x.2.2.2.1 + (1 : Int))), y3.2.1, y3.2.2.1, y3.2.2.2.1, y3.2.2.2.2.1, y3.2.2.2.2.2.1, y3.2.2.2.2.2.2.1, y3.2.2.2.2.2.2.2.1, y3.2.2.2.2.2.2.2.2.1, y3.2.2.2.2.2.2.2.2.2)))
      else none
    else
      k (.inr (.inr (x.1, x.2.1, x.2.2.1, x.2.2.2.1, x.2.2.2.2.1, x.2.2.2.2.2.1, x.2.2.2.2.2.2.1, x.2.2.2.2.2.2.2.1, x.2.2.2.2.2.2.2.2.1, x.2.2.2.2.2.2.2.2.2.1, x.2.2.2.2.2.2.2.2.2.2.1, x.2.2.2.2.2.2.2.2.2.2.2.1, x.2.2.2.2.2.2.2.2.2.2.2.2)))

theorem slices_IndexFunc_Txn_Danger_2_bp0 (x : q13T) : Par (slices_IndexFunc_Txn_Danger_2_b0 x) := by
  unfold slices_IndexFunc_Txn_Danger_2_b0
  exact (par_bif (par_ite (c := 0 ≤ x.2.2.2.1 ∧ x.2.2.2.1 < (x.1.length : Int)) ((impl_Danger_2_p (rd (Ty.zero tTxn) x.1 x.2.2.2.1) x.2.2.2.2.1 x.2.2.2.2.2.1 x.2.2.2.2.2.2.1 x.2.2.2.2.2.2.2.1 x.2.2.2.2.2.2.2.2.1 x.2.2.2.2.2.2.2.2.2.1 x.2.2.2.2.2.2.2.2.2.2.1 x.2.2.2.2.2.2.2.2.2.2.2.1 x.2.2.2.2.2.2.2.2.2.2.2.2).bind fun y3 => (par_bif (par_ret _) (par_ret _))) par_none) (par_ret _))

def slices_IndexFunc_Txn_Danger_2_d (a0 : (List dTxn)) (a1 : Int) (a2 : Int) (a3 : Int) (a4 : Int) (a5 : (List dRange)) (a6 : (List dWrite)) (a7 : Bool) (a8 : ByteArray) (a9 : (List dTxn)) (k : q40T → Option Res) : Option Res :=
  loopK slices_IndexFunc_Txn_Danger_2_b0 Fuel (a0, (0 : Int), (a0.length : Int), (0 : Int), a1, a2, a3, a4, a5, a6, a7, a8, a9) (Sum.elim (fun z1 =>
    k (z1.2.1, z1.2.2.2.2.1, z1.2.2.2.2.2.1, z1.2.2.2.2.2.2.1, z1.2.2.2.2.2.2.2.1, z1.2.2.2.2.2.2.2.2.1, z1.2.2.2.2.2.2.2.2.2.1, z1.2.2.2.2.2.2.2.2.2.2.1, z1.2.2.2.2.2.2.2.2.2.2.2.1, z1.2.2.2.2.2.2.2.2.2.2.2.2)) (fun z2 =>
    k ((-1 : Int), z2.2.2.2.2.1, z2.2.2.2.2.2.1, z2.2.2.2.2.2.2.1, z2.2.2.2.2.2.2.2.1, z2.2.2.2.2.2.2.2.2.1, z2.2.2.2.2.2.2.2.2.2.1, z2.2.2.2.2.2.2.2.2.2.2.1, z2.2.2.2.2.2.2.2.2.2.2.2.1, z2.2.2.2.2.2.2.2.2.2.2.2.2)))

theorem slices_IndexFunc_Txn_Danger_2_h : ∃ g : (List dTxn) → Int → Int → Int → Int → (List dRange) → (List dWrite) → Bool → ByteArray → (List dTxn) → (q40T → Option Res) → Option Res, g = slices_IndexFunc_Txn_Danger_2_d := ⟨_, rfl⟩
def slices_IndexFunc_Txn_Danger_2_k : (List dTxn) → Int → Int → Int → Int → (List dRange) → (List dWrite) → Bool → ByteArray → (List dTxn) → (q40T → Option Res) → Option Res := Classical.choose slices_IndexFunc_Txn_Danger_2_h
theorem slices_IndexFunc_Txn_Danger_2_e : slices_IndexFunc_Txn_Danger_2_k = slices_IndexFunc_Txn_Danger_2_d := Classical.choose_spec slices_IndexFunc_Txn_Danger_2_h

theorem slices_IndexFunc_Txn_Danger_2_p (a0 : (List dTxn)) (a1 : Int) (a2 : Int) (a3 : Int) (a4 : Int) (a5 : (List dRange)) (a6 : (List dWrite)) (a7 : Bool) (a8 : ByteArray) (a9 : (List dTxn)) : Par (slices_IndexFunc_Txn_Danger_2_k a0 a1 a2 a3 a4 a5 a6 a7 a8 a9) := by
  rw [slices_IndexFunc_Txn_Danger_2_e]
  unfold slices_IndexFunc_Txn_Danger_2_d
  exact ((par_loop slices_IndexFunc_Txn_Danger_2_bp0 Fuel (a0, (0 : Int), (a0.length : Int), (0 : Int), a1, a2, a3, a4, a5, a6, a7, a8, a9)).bind2 (fun z1 => (par_ret _)) (fun z2 => (par_ret _)))

def slices_ContainsFunc_Txn_Danger_2_d (a0 : (List dTxn)) (a1 : Int) (a2 : Int) (a3 : Int) (a4 : Int) (a5 : (List dRange)) (a6 : (List dWrite)) (a7 : Bool) (a8 : ByteArray) (a9 : (List dTxn)) (k : q27T → Option Res) : Option Res :=
  slices_IndexFunc_Txn_Danger_2_k a0 a1 a2 a3 a4 a5 a6 a7 a8 a9 (fun y1 =>
    k ((decide (y1.1 ≥ (0 : Int))), y1.2.1, y1.2.2.1, y1.2.2.2.1, y1.2.2.2.2.1, y1.2.2.2.2.2.1, y1.2.2.2.2.2.2.1, y1.2.2.2.2.2.2.2.1, y1.2.2.2.2.2.2.2.2.1, y1.2.2.2.2.2.2.2.2.2))

theorem slices_ContainsFunc_Txn_Danger_2_h : ∃ g : (List dTxn) → Int → Int → Int → Int → (List dRange) → (List dWrite) → Bool → ByteArray → (List dTxn) → (q27T → Option Res) → Option Res, g = slices_ContainsFunc_Txn_Danger_2_d := ⟨_, rfl⟩
def slices_ContainsFunc_Txn_Danger_2_k : (List dTxn) → Int → Int → Int → Int → (List dRange) → (List dWrite) → Bool → ByteArray → (List dTxn) → (q27T → Option Res) → Option Res := Classical.choose slices_ContainsFunc_Txn_Danger_2_h
theorem slices_ContainsFunc_Txn_Danger_2_e : slices_ContainsFunc_Txn_Danger_2_k = slices_ContainsFunc_Txn_Danger_2_d := Classical.choose_spec slices_ContainsFunc_Txn_Danger_2_h

theorem slices_ContainsFunc_Txn_Danger_2_p (a0 : (List dTxn)) (a1 : Int) (a2 : Int) (a3 : Int) (a4 : Int) (a5 : (List dRange)) (a6 : (List dWrite)) (a7 : Bool) (a8 : ByteArray) (a9 : (List dTxn)) : Par (slices_ContainsFunc_Txn_Danger_2_k a0 a1 a2 a3 a4 a5 a6 a7 a8 a9) := by
  rw [slices_ContainsFunc_Txn_Danger_2_e]
  unfold slices_ContainsFunc_Txn_Danger_2_d
  exact ((slices_IndexFunc_Txn_Danger_2_p a0 a1 a2 a3 a4 a5 a6 a7 a8 a9).bind fun y1 => (par_ret _))

def impl_some_Danger_2_d (a0 : (List dTxn)) (a1 : Int) (a2 : Int) (a3 : Int) (a4 : Int) (a5 : (List dRange)) (a6 : (List dWrite)) (a7 : Bool) (a8 : ByteArray) (a9 : (List dTxn)) (k : q27T → Option Res) : Option Res :=
  slices_ContainsFunc_Txn_Danger_2_k a0 a1 a2 a3 a4 a5 a6 a7 a8 a9 (fun y1 =>
    k (y1.1, y1.2.1, y1.2.2.1, y1.2.2.2.1, y1.2.2.2.2.1, y1.2.2.2.2.2.1, y1.2.2.2.2.2.2.1, y1.2.2.2.2.2.2.2.1, y1.2.2.2.2.2.2.2.2.1, y1.2.2.2.2.2.2.2.2.2))

theorem impl_some_Danger_2_h : ∃ g : (List dTxn) → Int → Int → Int → Int → (List dRange) → (List dWrite) → Bool → ByteArray → (List dTxn) → (q27T → Option Res) → Option Res, g = impl_some_Danger_2_d := ⟨_, rfl⟩
def impl_some_Danger_2_k : (List dTxn) → Int → Int → Int → Int → (List dRange) → (List dWrite) → Bool → ByteArray → (List dTxn) → (q27T → Option Res) → Option Res := Classical.choose impl_some_Danger_2_h
theorem impl_some_Danger_2_e : impl_some_Danger_2_k = impl_some_Danger_2_d := Classical.choose_spec impl_some_Danger_2_h

theorem impl_some_Danger_2_p (a0 : (List dTxn)) (a1 : Int) (a2 : Int) (a3 : Int) (a4 : Int) (a5 : (List dRange)) (a6 : (List dWrite)) (a7 : Bool) (a8 : ByteArray) (a9 : (List dTxn)) : Par (impl_some_Danger_2_k a0 a1 a2 a3 a4 a5 a6 a7 a8 a9) := by
  rw [impl_some_Danger_2_e]
  unfold impl_some_Danger_2_d
  exact ((slices_ContainsFunc_Txn_Danger_2_p a0 a1 a2 a3 a4 a5 a6 a7 a8 a9).bind fun y1 => (par_ret _))

def impl_Danger_j5000003 (x : q27T) (k : q27T → Option Res) : Option Res :=
    impl_some_Danger_1_k x.2.2.2.2.2.2.2.2.2 x.2.1 x.2.2.1 x.2.2.2.1 x.2.2.2.2.1 x.2.2.2.2.2.1 x.2.2.2.2.2.2.1 x.2.2.2.2.2.2.2.1 x.2.2.2.2.2.2.2.2.1 (fun y5 =>
      bif y5.1 then
        k (true, y5.2.1, y5.2.2.1, y5.2.2.2.1, y5.2.2.2.2.1, y5.2.2.2.2.2.1, y5.2.2.2.2.2.2.1, y5.2.2.2.2.2.2.2.1, y5.2.2.2.2.2.2.2.2, x.2.2.2.2.2.2.2.2.2)
      else
        impl_some_Danger_2_k x.2.2.2.2.2.2.2.2.2 y5.2.1 y5.2.2.1 y5.2.2.2.1 y5.2.2.2.2.1 y5.2.2.2.2.2.1 y5.2.2.2.2.2.2.1 y5.2.2.2.2.2.2.2.1 y5.2.2.2.2.2.2.2.2 x.2.2.2.2.2.2.2.2.2 (fun y6 =>
          k (y6.1, y6.2.1, y6.2.2.1, y6.2.2.2.1, y6.2.2.2.2.1, y6.2.2.2.2.2.1, y6.2.2.2.2.2.2.1, y6.2.2.2.2.2.2.2.1, y6.2.2.2.2.2.2.2.2.1, y6.2.2.2.2.2.2.2.2.2)))

theorem impl_Danger_jp5000003 (x : q27T) : Par (impl_Danger_j5000003 x) := by
  unfold impl_Danger_j5000003
  exact ((impl_some_Danger_1_p x.2.2.2.2.2.2.2.2.2 x.2.1 x.2.2.1 x.2.2.2.1 x.2.2.2.2.1 x.2.2.2.2.2.1 x.2.2.2.2.2.2.1 x.2.2.2.2.2.2.2.1 x.2.2.2.2.2.2.2.2.1).bind fun y5 => (par_bif (par_ret _) ((impl_some_Danger_2_p x.2.2.2.2.2.2.2.2.2 y5.2.1 y5.2.2.1 y5.2.2.2.1 y5.2.2.2.2.1 y5.2.2.2.2.2.1 y5.2.2.2.2.2.2.1 y5.2.2.2.2.2.2.2.1 y5.2.2.2.2.2.2.2.2 x.2.2.2.2.2.2.2.2.2).bind fun y6 => (par_ret _))))

def impl_Danger_d (a0 : dTxn) (a1 : (List dTxn)) (k : Bool → Option Res) : Option Res :=
  impl_InOf_k a0 a1 (fun y1 =>
    bif y1 then
      impl_OutOf_k a0 a1 (fun y2 =>
        bif y2 then
          k true
        else
          impl_Danger_j5000003 (false, a0.1, a0.2.1, a0.2.2.1, a0.2.2.2.1, a0.2.2.2.2.1, a0.2.2.2.2.2.1, a0.2.2.2.2.2.2.1, a0.2.2.2.2.2.2.2, a1) (fun z3 =>
            k z3.1))
    else
      impl_Danger_j5000003 (false, a0.1, a0.2.1, a0.2.2.1, a0.2.2.2.1, a0.2.2.2.2.1, a0.2.2.2.2.2.1, a0.2.2.2.2.2.2.1, a0.2.2.2.2.2.2.2, a1) (fun z4 =>
        k z4.1))

theorem impl_Danger_h : ∃ g : dTxn → (List dTxn) → (Bool → Option Res) → Option Res, g = impl_Danger_d := ⟨_, rfl⟩
def impl_Danger_k : dTxn → (List dTxn) → (Bool → Option Res) → Option Res := Classical.choose impl_Danger_h
theorem impl_Danger_e : impl_Danger_k = impl_Danger_d := Classical.choose_spec impl_Danger_h

theorem impl_Danger_p (a0 : dTxn) (a1 : (List dTxn)) : Par (impl_Danger_k a0 a1) := by
  rw [impl_Danger_e]
  unfold impl_Danger_d
  exact ((impl_InOf_p a0 a1).bind fun y1 => (par_bif ((impl_OutOf_p a0 a1).bind fun y2 => (par_bif (par_ret _) ((impl_Danger_jp5000003 (false, a0.1, a0.2.1, a0.2.2.1, a0.2.2.2.1, a0.2.2.2.2.1, a0.2.2.2.2.2.1, a0.2.2.2.2.2.2.1, a0.2.2.2.2.2.2.2, a1)).bind fun z3 => (par_ret _)))) ((impl_Danger_jp5000003 (false, a0.1, a0.2.1, a0.2.2.1, a0.2.2.2.1, a0.2.2.2.2.1, a0.2.2.2.2.2.1, a0.2.2.2.2.2.2.1, a0.2.2.2.2.2.2.2, a1)).bind fun z4 => (par_ret _))))

def spec_Beside_d (a0 : dTxn) (a1 : dTxn) (k : Bool → Option Res) : Option Res :=
  bif (a0.1 == a1.1) then
    k false
  else
    bif (a0.2.1 == (3 : Int)) then
      bif (decide (a0.2.2.2.1 ≤ a1.2.2.1)) then
        k false
      else
        bif (a1.2.1 == (3 : Int)) then
          bif (decide (a1.2.2.2.1 ≤ a0.2.2.1)) then
            k false
          else
            k true
        else
          k true
    else
      bif (a1.2.1 == (3 : Int)) then
        bif (decide (a1.2.2.2.1 ≤ a0.2.2.1)) then
          k false
        else
          k true
      else
        k true

theorem spec_Beside_h : ∃ g : dTxn → dTxn → (Bool → Option Res) → Option Res, g = spec_Beside_d := ⟨_, rfl⟩
def spec_Beside_k : dTxn → dTxn → (Bool → Option Res) → Option Res := Classical.choose spec_Beside_h
theorem spec_Beside_e : spec_Beside_k = spec_Beside_d := Classical.choose_spec spec_Beside_h

theorem spec_Beside_p (a0 : dTxn) (a1 : dTxn) : Par (spec_Beside_k a0 a1) := by
  rw [spec_Beside_e]
  unfold spec_Beside_d
  exact (par_bif (par_ret _) (par_bif (par_bif (par_ret _) (par_bif (par_bif (par_ret _) (par_ret _)) (par_ret _))) (par_bif (par_bif (par_ret _) (par_ret _)) (par_ret _))))

def spec_InRange_d (a0 : dRange) (a1 : ByteArray) (k : Bool → Option Res) : Option Res :=
  bif (!(strLess a1 a0.1)) then
    k ((strLess a1 a0.2) || (strEq a1 a0.2))
  else
    k false

theorem spec_InRange_h : ∃ g : dRange → ByteArray → (Bool → Option Res) → Option Res, g = spec_InRange_d := ⟨_, rfl⟩
def spec_InRange_k : dRange → ByteArray → (Bool → Option Res) → Option Res := Classical.choose spec_InRange_h
theorem spec_InRange_e : spec_InRange_k = spec_InRange_d := Classical.choose_spec spec_InRange_h

theorem spec_InRange_p (a0 : dRange) (a1 : ByteArray) : Par (spec_InRange_k a0 a1) := by
  rw [spec_InRange_e]
  unfold spec_InRange_d
  exact (par_bif (par_ret _) (par_ret _))

def spec_Touches_b2 (x : q3T) (k : q3T ⊕ (q3T ⊕ q3T) → Option Res) : Option Res :=
    bif (decide (x.2.2.2.2 < (x.2.1.length : Int))) then
      if 0 ≤ x.2.2.2.1 ∧ x.2.2.2.1 < (x.1.length : Int) then
        if 0 ≤ x.2.2.2.2 ∧ x.2.2.2.2 < (x.2.1.length : Int) then
          spec_InRange_k (rd (Ty.zero tRange) x.1 x.2.2.2.1) ((rd (Ty.zero tWrite) x.2.1 x.2.2.2.2).1) (fun y5 =>
            bif y5 then
              k (.inr (.inl (x.1, x.2.1, true, x.2.2.2.1, x.2.2.2.2)))
            else
              k (.inl (x.1, x.2.1, x.2.2.1, x.2.2.2.1, (IntKind.wrap .i64 (x.2.2.2.2 + (1 : Int))))))
        else none
      else none
    else
      k (.inr (.inr (x.1, x.2.1, x.2.2.1, x.2.2.2.1, x.2.2.2.2)))

theorem spec_Touches_bp2 (x : q3T) : Par (spec_Touches_b2 x) := by
  unfold spec_Touches_b2
  exact (par_bif (par_ite (c := 0 ≤ x.2.2.2.1 ∧ x.2.2.2.1 < (x.1.length : Int)) (par_ite (c := 0 ≤ x.2.2.2.2 ∧ x.2.2.2.2 < (x.2.1.length : Int)) ((spec_InRange_p (rd (Ty.zero tRange) x.1 x.2.2.2.1) ((rd (Ty.zero tWrite) x.2.1 x.2.2.2.2).1)).bind fun y5 => (par_bif (par_ret _) (par_ret _))) par_none) par_none) (par_ret _))

def spec_Touches_b0 (x : q4T) (k : q4T ⊕ (q4T ⊕ q4T) → Option Res) : Option Res :=
    bif (decide (x.2.2.2 < (x.1.length : Int))) then
      loopK spec_Touches_b2 Fuel (x.1, x.2.1, x.2.2.1, x.2.2.2, (0 : Int)) (Sum.elim (fun z3 =>
        k (.inr (.inr (z3.1, z3.2.1, z3.2.2.1, z3.2.2.2.1)))) (fun z4 =>
        k (.inl (z4.1, z4.2.1, z4.2.2.1, (IntKind.wrap .i64 (z4.2.2.2.1 + (1 : Int)))))))
    else
      k (.inr (.inl (x.1, x.2.1, x.2.2.1, x.2.2.2)))

theorem spec_Touches_bp0 (x : q4T) : Par (spec_Touches_b0 x) := by
  unfold spec_Touches_b0
  exact (par_bif ((par_loop spec_Touches_bp2 Fuel (x.1, x.2.1, x.2.2.1, x.2.2.2, (0 : Int))).bind2 (fun z3 => (par_ret _)) (fun z4 => (par_ret _))) (par_ret _))

def spec_Touches_d (a0 : (List dRange)) (a1 : (List dWrite)) (k : Bool → Option Res) : Option Res :=
  loopK spec_Touches_b0 Fuel (a0, a1, false, (0 : Int)) (Sum.elim (fun _ =>
    k false) (fun z2 =>
    k z2.2.2.1))

theorem spec_Touches_h : ∃ g : (List dRange) → (List dWrite) → (Bool → Option Res) → Option Res, g = spec_Touches_d := ⟨_, rfl⟩
def spec_Touches_k : (List dRange) → (List dWrite) → (Bool → Option Res) → Option Res := Classical.choose spec_Touches_h
theorem spec_Touches_e : spec_Touches_k = spec_Touches_d := Classical.choose_spec spec_Touches_h

theorem spec_Touches_p (a0 : (List dRange)) (a1 : (List dWrite)) : Par (spec_Touches_k a0 a1) := by
  rw [spec_Touches_e]
  unfold spec_Touches_d
  exact ((par_loop spec_Touches_bp0 Fuel (a0, a1, false, (0 : Int))).bind2 (fun z1 => (par_ret _)) (fun z2 => (par_ret _)))

def spec_Ahead_d (a0 : dTxn) (a1 : dTxn) (k : Bool → Option Res) : Option Res :=
  spec_Beside_k a0 a1 (fun y1 =>
    bif y1 then
      spec_Touches_k a0.2.2.2.2.1 a1.2.2.2.2.2.1 (fun y2 =>
        k y2)
    else
      k false)

theorem spec_Ahead_h : ∃ g : dTxn → dTxn → (Bool → Option Res) → Option Res, g = spec_Ahead_d := ⟨_, rfl⟩
def spec_Ahead_k : dTxn → dTxn → (Bool → Option Res) → Option Res := Classical.choose spec_Ahead_h
theorem spec_Ahead_e : spec_Ahead_k = spec_Ahead_d := Classical.choose_spec spec_Ahead_h

theorem spec_Ahead_p (a0 : dTxn) (a1 : dTxn) : Par (spec_Ahead_k a0 a1) := by
  rw [spec_Ahead_e]
  unfold spec_Ahead_d
  exact ((spec_Beside_p a0 a1).bind fun y1 => (par_bif ((spec_Touches_p a0.2.2.2.2.1 a1.2.2.2.2.2.1).bind fun y2 => (par_ret _)) (par_ret _)))

def spec_InOf_b0 (x : q10T) (k : q10T ⊕ (q10T ⊕ q10T) → Option Res) : Option Res :=
    bif (decide (x.2.2.1 < (x.1.length : Int))) then
      if 0 ≤ x.2.2.1 ∧ x.2.2.1 < (x.1.length : Int) then
        bif ((rd (Ty.zero tTxn) x.1 x.2.2.1).2.1 == (2 : Int)) then
          if 0 ≤ x.2.2.1 ∧ x.2.2.1 < (x.1.length : Int) then
            spec_Ahead_k (rd (Ty.zero tTxn) x.1 x.2.2.1) x.2.2.2 (fun y3 =>
              bif y3 then
                k (.inr (.inl (x.1, true, x.2.2.1, x.2.2.2.1, x.2.2.2.2.1, x.2.2.2.2.2.1, x.2.2.2.2.2.2.1, x.2.2.2.2.2.2.2.1, x.2.2.2.2.2.2.2.2.1, x.2.2.2.2.2.2.2.2.2.1, x.2.2.2.2.2.2.2.2.2.2)))
              else
                k (.inl (x.1, x.2.1, (IntKind.wrap .i64 (x.2.2.1 + (1 : Int))), x.2.2.2.1, x.2.2.2.2.1, x.2.2.2.2.2.1, x.2.2.2.2.2.2.1, x.2.2.2.2.2.2.2.1, x.2.2.2.2.2.2.2.2.1, x.2.2.2.2.2.2.2.2.2.1, x.2.2.2.2.2.2.2.2.2.2)))
          else none
        else
          if 0 ≤ x.2.2.1 ∧ x.2.2.1 < (x.1.length : Int) then
            bif ((rd (Ty.zero tTxn) x.1 x.2.2.1).2.1 == (3 : Int)) then
              if 0 ≤ x.2.2.1 ∧ x.2.2.1 < (x.1.length : Int) then
                spec_Ahead_k (rd (Ty.zero tTxn) x.1 x.2.2.1) x.2.2.2 (fun y4 =>
                  bif y4 then
                    k (.inr (.inl (x.1, true, x.2.2.1, x.2.2.2.1, x.2.2.2.2.1, x.2.2.2.2.2.1, x.2.2.2.2.2.2.1, x.2.2.2.2.2.2.2.1, x.2.2.2.2.2.2.2.2.1, x.2.2.2.2.2.2.2.2.2.1, x.2.2.2.2.2.2.2.2.2.2)))
                  else
                    k (.inl (x.1, x.2.1, (IntKind.wrap .i64 (x.2.2.1 + (1 : Int))), x.2.2.2.1, x.2.2.2.2.1, x.2.2.2.2.2.1, x.2.2.2.2.2.2.1, x.2.2.2.2.2.2.2.1, x.2.2.2.2.2.2.2.2.1, x.2.2.2.2.2.2.2.2.2.1, x.2.2.2.2.2.2.2.2.2.2)))
              else none
            else
              k (.inl (x.1, x.2.1, (IntKind.wrap .i64 (x.2.2.1 + (1 : Int))), x.2.2.2.1, x.2.2.2.2.1, x.2.2.2.2.2.1, x.2.2.2.2.2.2.1, x.2.2.2.2.2.2.2.1, x.2.2.2.2.2.2.2.2.1, x.2.2.2.2.2.2.2.2.2.1, x.2.2.2.2.2.2.2.2.2.2))
          else none
      else none
    else
      k (.inr (.inr (x.1, x.2.1, x.2.2.1, x.2.2.2.1, x.2.2.2.2.1, x.2.2.2.2.2.1, x.2.2.2.2.2.2.1, x.2.2.2.2.2.2.2.1, x.2.2.2.2.2.2.2.2.1, x.2.2.2.2.2.2.2.2.2.1, x.2.2.2.2.2.2.2.2.2.2)))

theorem spec_InOf_bp0 (x : q10T) : Par (spec_InOf_b0 x) := by
  unfold spec_InOf_b0
  exact (par_bif (par_ite (c := 0 ≤ x.2.2.1 ∧ x.2.2.1 < (x.1.length : Int)) (par_bif (par_ite (c := 0 ≤ x.2.2.1 ∧ x.2.2.1 < (x.1.length : Int)) ((spec_Ahead_p (rd (Ty.zero tTxn) x.1 x.2.2.1) x.2.2.2).bind fun y3 => (par_bif (par_ret _) (par_ret _))) par_none) (par_ite (c := 0 ≤ x.2.2.1 ∧ x.2.2.1 < (x.1.length : Int)) (par_bif (par_ite (c := 0 ≤ x.2.2.1 ∧ x.2.2.1 < (x.1.length : Int)) ((spec_Ahead_p (rd (Ty.zero tTxn) x.1 x.2.2.1) x.2.2.2).bind fun y4 => (par_bif (par_ret _) (par_ret _))) par_none) (par_ret _)) par_none)) par_none) (par_ret _))

def spec_InOf_d (a0 : dTxn) (a1 : (List dTxn)) (k : Bool → Option Res) : Option Res :=
  loopK spec_InOf_b0 Fuel (a1, false, (0 : Int), a0.1, a0.2.1, a0.2.2.1, a0.2.2.2.1, a0.2.2.2.2.1, a0.2.2.2.2.2.1, a0.2.2.2.2.2.2.1, a0.2.2.2.2.2.2.2) (Sum.elim (fun z1 =>
    k z1.2.1) (fun _ =>
    k false))

theorem spec_InOf_h : ∃ g : dTxn → (List dTxn) → (Bool → Option Res) → Option Res, g = spec_InOf_d := ⟨_, rfl⟩
def spec_InOf_k : dTxn → (List dTxn) → (Bool → Option Res) → Option Res := Classical.choose spec_InOf_h
theorem spec_InOf_e : spec_InOf_k = spec_InOf_d := Classical.choose_spec spec_InOf_h

theorem spec_InOf_p (a0 : dTxn) (a1 : (List dTxn)) : Par (spec_InOf_k a0 a1) := by
  rw [spec_InOf_e]
  unfold spec_InOf_d
  exact ((par_loop spec_InOf_bp0 Fuel (a1, false, (0 : Int), a0.1, a0.2.1, a0.2.2.1, a0.2.2.2.1, a0.2.2.2.2.1, a0.2.2.2.2.2.1, a0.2.2.2.2.2.2.1, a0.2.2.2.2.2.2.2)).bind2 (fun z1 => (par_ret _)) (fun z2 => (par_ret _)))

def spec_OutOf_b0 (x : q10T) (k : q10T ⊕ (q10T ⊕ q10T) → Option Res) : Option Res :=
    bif (decide (x.2.2.1 < (x.1.length : Int))) then
      if 0 ≤ x.2.2.1 ∧ x.2.2.1 < (x.1.length : Int) then
        bif ((rd (Ty.zero tTxn) x.1 x.2.2.1).2.1 == (3 : Int)) then
          if 0 ≤ x.2.2.1 ∧ x.2.2.1 < (x.1.length : Int) then
            spec_Ahead_k x.2.2.2 (rd (Ty.zero tTxn) x.1 x.2.2.1) (fun y3 =>
              bif y3 then
                k (.inr (.inl (x.1, true, x.2.2.1, x.2.2.2.1, x.2.2.2.2.1, x.2.2.2.2.2.1, x.2.2.2.2.2.2.1, x.2.2.2.2.2.2.2.1, x.2.2.2.2.2.2.2.2.1, x.2.2.2.2.2.2.2.2.2.1, x.2.2.2.2.2.2.2.2.2.2)))
              else
                k (.inl (x.1, x.2.1, (IntKind.wrap .i64 (x.2.2.1 + (1 : Int))), x.2.2.2.1, x.2.2.2.2.1, x.2.2.2.2.2.1, x.2.2.2.2.2.2.1, x.2.2.2.2.2.2.2.1, x.2.2.2.2.2.2.2.2.1, x.2.2.2.2.2.2.2.2.2.1, x.2.2.2.2.2.2.2.2.2.2)))
          else none
        else
          k (.inl (x.1, x.2.1, (IntKind.wrap .i64 (x.2.2.1 + (1 : Int))), x.2.2.2.1, x.2.2.2.2.1, x.2.2.2.2.2.1, x.2.2.2.2.2.2.1, x.2.2.2.2.2.2.2.1, x.2.2.2.2.2.2.2.2.1, x.2.2.2.2.2.2.2.2.2.1, x.2.2.2.2.2.2.2.2.2.2))
      else none
    else
      k (.inr (.inr (x.1, x.2.1, x.2.2.1, x.2.2.2.1, x.2.2.2.2.1, x.2.2.2.2.2.1, x.2.2.2.2.2.2.1, x.2.2.2.2.2.2.2.1, x.2.2.2.2.2.2.2.2.1, x.2.2.2.2.2.2.2.2.2.1, x.2.2.2.2.2.2.2.2.2.2)))

theorem spec_OutOf_bp0 (x : q10T) : Par (spec_OutOf_b0 x) := by
  unfold spec_OutOf_b0
  exact (par_bif (par_ite (c := 0 ≤ x.2.2.1 ∧ x.2.2.1 < (x.1.length : Int)) (par_bif (par_ite (c := 0 ≤ x.2.2.1 ∧ x.2.2.1 < (x.1.length : Int)) ((spec_Ahead_p x.2.2.2 (rd (Ty.zero tTxn) x.1 x.2.2.1)).bind fun y3 => (par_bif (par_ret _) (par_ret _))) par_none) (par_ret _)) par_none) (par_ret _))

def spec_OutOf_d (a0 : dTxn) (a1 : (List dTxn)) (k : Bool → Option Res) : Option Res :=
  loopK spec_OutOf_b0 Fuel (a1, false, (0 : Int), a0.1, a0.2.1, a0.2.2.1, a0.2.2.2.1, a0.2.2.2.2.1, a0.2.2.2.2.2.1, a0.2.2.2.2.2.2.1, a0.2.2.2.2.2.2.2) (Sum.elim (fun z1 =>
    k z1.2.1) (fun _ =>
    k false))

theorem spec_OutOf_h : ∃ g : dTxn → (List dTxn) → (Bool → Option Res) → Option Res, g = spec_OutOf_d := ⟨_, rfl⟩
def spec_OutOf_k : dTxn → (List dTxn) → (Bool → Option Res) → Option Res := Classical.choose spec_OutOf_h
theorem spec_OutOf_e : spec_OutOf_k = spec_OutOf_d := Classical.choose_spec spec_OutOf_h

theorem spec_OutOf_p (a0 : dTxn) (a1 : (List dTxn)) : Par (spec_OutOf_k a0 a1) := by
  rw [spec_OutOf_e]
  unfold spec_OutOf_d
  exact ((par_loop spec_OutOf_bp0 Fuel (a1, false, (0 : Int), a0.1, a0.2.1, a0.2.2.1, a0.2.2.2.1, a0.2.2.2.2.1, a0.2.2.2.2.2.1, a0.2.2.2.2.2.2.1, a0.2.2.2.2.2.2.2)).bind2 (fun z1 => (par_ret _)) (fun z2 => (par_ret _)))

def spec_Danger_j6000003 (x : q11T) (k : (q11T ⊕ q11T) → Option Res) : Option Res :=
    if 0 ≤ x.2.2.2.1 ∧ x.2.2.2.1 < (x.1.length : Int) then
      bif ((rd (Ty.zero tTxn) x.1 x.2.2.2.1).2.1 == (2 : Int)) then
        bif ((rd (Ty.zero tTxn) x.1 x.2.2.2.1).1 != x.2.2.2.2.1) then
          spec_Ahead_k (rd (Ty.zero tTxn) x.1 x.2.2.2.1) x.2.2.2.2.2.2.2.2.2.2.2.2 (fun y32 =>
            bif y32 then
              k (.inl (x.1, true, x.2.2.1, x.2.2.2.1, x.2.2.2.2.1, x.2.2.2.2.2.1, x.2.2.2.2.2.2.1, x.2.2.2.2.2.2.2.1, x.2.2.2.2.2.2.2.2.1, x.2.2.2.2.2.2.2.2.2.1, x.2.2.2.2.2.2.2.2.2.2.1, x.2.2.2.2.2.2.2.2.2.2.2.1, x.2.2.2.2.2.2.2.2.2.2.2.2.1, x.2.2.2.2.2.2.2.2.2.2.2.2.2.1, x.2.2.2.2.2.2.2.2.2.2.2.2.2.2.1, x.2.2.2.2.2.2.2.2.2.2.2.2.2.2.2.1, x.2.2.2.2.2.2.2.2.2.2.2.2.2.2.2.2.1, x.2.2.2.2.2.2.2.2.2.2.2.2.2.2.2.2.2.1, x.2.2.2.2.2.2.2.2.2.2.2.2.2.2.2.2.2.2.1, x.2.2.2.2.2.2.2.2.2.2.2.2.2.2.2.2.2.2.2))
            else
              k (.inr (x.1, x.2.1, x.2.2.1, (IntKind.wrap .i64 (x.2.2.2.1 + (1 : Int))), x.2.2.2.2.1, x.2.2.2.2.2.1, x.2.2.2.2.2.2.1, x.2.2.2.2.2.2.2.1, x.2.2.2.2.2.2.2.2.1, x.2.2.2.2.2.2.2.2.2.1, x.2.2.2.2.2.2.2.2.2.2.1, x.2.2.2.2.2.2.2.2.2.2.2.1, x.2.2.2.2.2.2.2.2.2.2.2.2.1, x.2.2.2.2.2.2.2.2.2.2.2.2.2.1, x.2.2.2.2.2.2.2.2.2.2.2.2.2.2.1, x.2.2.2.2.2.2.2.2.2.2.2.2.2.2.2.1, x.2.2.2.2.2.2.2.2.2.2.2.2.2.2.2.2.1, x.2.2.2.2.2.2.2.2.2.2.2.2.2.2.2.2.2.1, x.2.2.2.2.2.2.2.2.2.2.2.2.2.2.2.2.2.2.1, x.2.2.2.2.2.2.2.2.2.2.2.2.2.2.2.2.2.2.2)))
        else
          k (.inr (x.1, x.2.1, x.2.2.1, (IntKind.wrap .i64 (x.2.2.2.1 + (1 : Int))), x.2.2.2.2.1, x.2.2.2.2.2.1, x.2.2.2.2.2.2.1, x.2.2.2.2.2.2.2.1, x.2.2.2.2.2.2.2.2.1, x.2.2.2.2.2.2.2.2.2.1, x.2.2.2.2.2.2.2.2.2.2.1, x.2.2.2.2.2.2.2.2.2.2.2.1, x.2.2.2.2.2.2.2.2.2.2.2.2.1, x.2.2.2.2.2.2.2.2.2.2.2.2.2.1, x.2.2.2.2.2.2.2.2.2.2.2.2.2.2.1, x.2.2.2.2.2.2.2.2.2.2.2.2.2.2.2.1, x.2.2.2.2.2.2.2.2.2.2.2.2.2.2.2.2.1, x.2.2.2.2.2.2.2.2.2.2.2.2.2.2.2.2.2.1, x.2.2.2.2.2.2.2.2.2.2.2.2.2.2.2.2.2.2.1, x.2.2.2.2.2.2.2.2.2.2.2.2.2.2.2.2.2.2.2))
      else
        k (.inr (x.1, x.2.1, x.2.2.1, (IntKind.wrap .i64 (x.2.2.2.1 + (1 : Int))), x.2.2.2.2.1, x.2.2.2.2.2.1, x.2.2.2.2.2.2.1, x.2.2.2.2.2.2.2.1, x.2.2.2.2.2.2.2.2.1, x.2.2.2.2.2.2.2.2.2.1, x.2.2.2.2.2.2.2.2.2.2.1, x.2.2.2.2.2.2.2.2.2.2.2.1, x.2.2.2.2.2.2.2.2.2.2.2.2.1, x.2.2.2.2.2.2.2.2.2.2.2.2.2.1, x.2.2.2.2.2.2.2.2.2.2.2.2.2.2.1, x.2.2.2.2.2.2.2.2.2.2.2.2.2.2.2.1, x.2.2.2.2.2.2.2.2.2.2.2.2.2.2.2.2.1, x.2.2.2.2.2.2.2.2.2.2.2.2.2.2.2.2.2.1, x.2.2.2.2.2.2.2.2.2.2.2.2.2.2.2.2.2.2.1, x.2.2.2.2.2.2.2.2.2.2.2.2.2.2.2.2.2.2.2))
    else none

theorem spec_Danger_jp6000003 (x : q11T) : Par (spec_Danger_j6000003 x) := by
  unfold spec_Danger_j6000003
  exact (par_ite (c := 0 ≤ x.2.2.2.1 ∧ x.2.2.2.1 < (x.1.length : Int)) (par_bif (par_bif ((spec_Ahead_p (rd (Ty.zero tTxn) x.1 x.2.2.2.1) x.2.2.2.2.2.2.2.2.2.2.2.2).bind fun y32 => (par_bif (par_ret _) (par_ret _))) (par_ret _)) (par_ret _)) par_none)

def spec_Danger_b2 (x : q11T) (k : q11T ⊕ (q11T ⊕ q11T) → Option Res) : Option Res :=
    bif (decide (x.2.2.2.1 < (x.1.length : Int))) then
      bif (x.2.2.2.2.2.2.2.2.2.2.2.2.2.1 == (2 : Int)) then
        spec_Ahead_k x.2.2.2.2.2.2.2.2.2.2.2.2 (x.2.2.2.2.1, (x.2.2.2.2.2.1, (x.2.2.2.2.2.2.1, (x.2.2.2.2.2.2.2.1, (x.2.2.2.2.2.2.2.2.1, (x.2.2.2.2.2.2.2.2.2.1, (x.2.2.2.2.2.2.2.2.2.2.1, x.2.2.2.2.2.2.2.2.2.2.2.1))))))) (fun y17 =>
          bif y17 then
            spec_Danger_j6000003 (x.1, x.2.1, x.2.2.1, x.2.2.2.1, x.2.2.2.2.1, x.2.2.2.2.2.1, x.2.2.2.2.2.2.1, x.2.2.2.2.2.2.2.1, x.2.2.2.2.2.2.2.2.1, x.2.2.2.2.2.2.2.2.2.1, x.2.2.2.2.2.2.2.2.2.2.1, x.2.2.2.2.2.2.2.2.2.2.2.1, x.2.2.2.2.2.2.2.2.2.2.2.2.1, x.2.2.2.2.2.2.2.2.2.2.2.2.2.1, x.2.2.2.2.2.2.2.2.2.2.2.2.2.2.1, x.2.2.2.2.2.2.2.2.2.2.2.2.2.2.2.1, x.2.2.2.2.2.2.2.2.2.2.2.2.2.2.2.2.1, x.2.2.2.2.2.2.2.2.2.2.2.2.2.2.2.2.2.1, x.2.2.2.2.2.2.2.2.2.2.2.2.2.2.2.2.2.2.1, x.2.2.2.2.2.2.2.2.2.2.2.2.2.2.2.2.2.2.2) (Sum.elim (fun z18 =>
              k (.inr (.inr (z18.1, z18.2.1, z18.2.2.1, z18.2.2.2.1, z18.2.2.2.2.1, z18.2.2.2.2.2.1, z18.2.2.2.2.2.2.1, z18.2.2.2.2.2.2.2.1, z18.2.2.2.2.2.2.2.2.1, z18.2.2.2.2.2.2.2.2.2.1, z18.2.2.2.2.2.2.2.2.2.2.1, z18.2.2.2.2.2.2.2.2.2.2.2.1, z18.2.2.2.2.2.2.2.2.2.2.2.2.1, z18.2.2.2.2.2.2.2.2.2.2.2.2.2.1, z18.2.2.2.2.2.2.2.2.2.2.2.2.2.2.1, z18.2.2.2.2.2.2.2.2.2.2.2.2.2.2.2.1, z18.2.2.2.2.2.2.2.2.2.2.2.2.2.2.2.2.1, z18.2.2.2.2.2.2.2.2.2.2.2.2.2.2.2.2.2.1, z18.2.2.2.2.2.2.2.2.2.2.2.2.2.2.2.2.2.2.1, z18.2.2.2.2.2.2.2.2.2.2.2.2.2.2.2.2.2.2.2)))) (fun z19 =>
              k (.inl (z19.1, z19.2.1, z19.2.2.1, z19.2.2.2.1, z19.2.2.2.2.1, z19.2.2.2.2.2.1, z19.2.2.2.2.2.2.1, z19.2.2.2.2.2.2.2.1, z19.2.2.2.2.2.2.2.2.1, z19.2.2.2.2.2.2.2.2.2.1, z19.2.2.2.2.2.2.2.2.2.2.1, z19.2.2.2.2.2.2.2.2.2.2.2.1, z19.2.2.2.2.2.2.2.2.2.2.2.2.1, z19.2.2.2.2.2.2.2.2.2.2.2.2.2.1, z19.2.2.2.2.2.2.2.2.2.2.2.2.2.2.1, z19.2.2.2.2.2.2.2.2.2.2.2.2.2.2.2.1, z19.2.2.2.2.2.2.2.2.2.2.2.2.2.2.2.2.1, z19.2.2.2.2.2.2.2.2.2.2.2.2.2.2.2.2.2.1, z19.2.2.2.2.2.2.2.2.2.2.2.2.2.2.2.2.2.2.1, z19.2.2.2.2.2.2.2.2.2.2.2.2.2.2.2.2.2.2.2))))
          else
            k (.inr (.inl (x.1, x.2.1, x.2.2.1, x.2.2.2.1, x.2.2.2.2.1, x.2.2.2.2.2.1, x.2.2.2.2.2.2.1, x.2.2.2.2.2.2.2.1, x.2.2.2.2.2.2.2.2.1, x.2.2.2.2.2.2.2.2.2.1, x.2.2.2.2.2.2.2.2.2.2.1, x.2.2.2.2.2.2.2.2.2.2.2.1, x.2.2.2.2.2.2.2.2.2.2.2.2.1, x.2.2.2.2.2.2.2.2.2.2.2.2.2.1, x.2.2.2.2.2.2.2.2.2.2.2.2.2.2.1, x.2.2.2.2.2.2.2.2.2.2.2.2.2.2.2.1, x.2.2.2.2.2.2.2.2.2.2.2.2.2.2.2.2.1, x.2.2.2.2.2.2.2.2.2.2.2.2.2.2.2.2.2.1, x.2.2.2.2.2.2.2.2.2.2.2.2.2.2.2.2.2.2.1, x.2.2.2.2.2.2.2.2.2.2.2.2.2.2.2.2.2.2.2))))
      else
        k (.inr (.inl (x.1, x.2.1, x.2.2.1, x.2.2.2.1, x.2.2.2.2.1, x.2.2.2.2.2.1, x.2.2.2.2.2.2.1, x.2.2.2.2.2.2.2.1, x.2.2.2.2.2.2.2.2.1, x.2.2.2.2.2.2.2.2.2.1, x.2.2.2.2.2.2.2.2.2.2.1, x.2.2.2.2.2.2.2.2.2.2.2.1, x.2.2.2.2.2.2.2.2.2.2.2.2.1, x.2.2.2.2.2.2.2.2.2.2.2.2.2.1, x.2.2.2.2.2.2.2.2.2.2.2.2.2.2.1, x.2.2.2.2.2.2.2.2.2.2.2.2.2.2.2.1, x.2.2.2.2.2.2.2.2.2.2.2.2.2.2.2.2.1, x.2.2.2.2.2.2.2.2.2.2.2.2.2.2.2.2.2.1, x.2.2.2.2.2.2.2.2.2.2.2.2.2.2.2.2.2.2.1, x.2.2.2.2.2.2.2.2.2.2.2.2.2.2.2.2.2.2.2)))
    else
      k (.inr (.inl (x.1, x.2.1, x.2.2.1, x.2.2.2.1, x.2.2.2.2.1, x.2.2.2.2.2.1, x.2.2.2.2.2.2.1, x.2.2.2.2.2.2.2.1, x.2.2.2.2.2.2.2.2.1, x.2.2.2.2.2.2.2.2.2.1, x.2.2.2.2.2.2.2.2.2.2.1, x.2.2.2.2.2.2.2.2.2.2.2.1, x.2.2.2.2.2.2.2.2.2.2.2.2.1, x.2.2.2.2.2.2.2.2.2.2.2.2.2.1, x.2.2.2.2.2.2.2.2.2.2.2.2.2.2.1, x.2.2.2.2.2.2.2.2.2.2.2.2.2.2.2.1, x.2.2.2.2.2.2.2.2.2.2.2.2.2.2.2.2.1, x.2.2.2.2.2.2.2.2.2.2.2.2.2.2.2.2.2.1, x.2.2.2.2.2.2.2.2.2.2.2.2.2.2.2.2.2.2.1, x.2.2.2.2.2.2.2.2.2.2.2.2.2.2.2.2.2.2.2)))

theorem spec_Danger_bp2 (x : q11T) : Par (spec_Danger_b2 x) := by
  unfold spec_Danger_b2
  exact (par_bif (par_bif ((spec_Ahead_p x.2.2.2.2.2.2.2.2.2.2.2.2 (x.2.2.2.2.1, (x.2.2.2.2.2.1, (x.2.2.2.2.2.2.1, (x.2.2.2.2.2.2.2.1, (x.2.2.2.2.2.2.2.2.1, (x.2.2.2.2.2.2.2.2.2.1, (x.2.2.2.2.2.2.2.2.2.2.1, x.2.2.2.2.2.2.2.2.2.2.2.1)))))))).bind fun y17 => (par_bif ((spec_Danger_jp6000003 (x.1, x.2.1, x.2.2.1, x.2.2.2.1, x.2.2.2.2.1, x.2.2.2.2.2.1, x.2.2.2.2.2.2.1, x.2.2.2.2.2.2.2.1, x.2.2.2.2.2.2.2.2.1, x.2.2.2.2.2.2.2.2.2.1, x.2.2.2.2.2.2.2.2.2.2.1, x.2.2.2.2.2.2.2.2.2.2.2.1, x.2.2.2.2.2.2.2.2.2.2.2.2.1, x.2.2.2.2.2.2.2.2.2.2.2.2.2.1, x.2.2.2.2.2.2.2.2.2.2.2.2.2.2.1, x.2.2.2.2.2.2.2.2.2.2.2.2.2.2.2.1, x.2.2.2.2.2.2.2.2.2.2.2.2.2.2.2.2.1, x.2.2.2.2.2.2.2.2.2.2.2.2.2.2.2.2.2.1, x.2.2.2.2.2.2.2.2.2.2.2.2.2.2.2.2.2.2.1, x.2.2.2.2.2.2.2.2.2.2.2.2.2.2.2.2.2.2.2)).bind2 (fun z18 => (par_ret _)) (fun z19 => (par_ret _))) (par_ret _))) (par_ret _)) (par_ret _))

def spec_Danger_j5000011 (x : q9T) (k : (q9T ⊕ q9T) → Option Res) : Option Res :=
    loopK spec_Danger_b2 Fuel (x.1, x.2.1, x.2.2.1, (0 : Int), x.2.2.2.1, x.2.2.2.2.1, x.2.2.2.2.2.1, x.2.2.2.2.2.2.1, x.2.2.2.2.2.2.2.1, x.2.2.2.2.2.2.2.2.1, x.2.2.2.2.2.2.2.2.2.1, x.2.2.2.2.2.2.2.2.2.2.1, x.2.2.2.2.2.2.2.2.2.2.2.1, x.2.2.2.2.2.2.2.2.2.2.2.2.1, x.2.2.2.2.2.2.2.2.2.2.2.2.2.1, x.2.2.2.2.2.2.2.2.2.2.2.2.2.2.1, x.2.2.2.2.2.2.2.2.2.2.2.2.2.2.2.1, x.2.2.2.2.2.2.2.2.2.2.2.2.2.2.2.2.1, x.2.2.2.2.2.2.2.2.2.2.2.2.2.2.2.2.2.1, x.2.2.2.2.2.2.2.2.2.2.2.2.2.2.2.2.2.2) (Sum.elim (fun z30 =>
      k (.inl (z30.1, z30.2.1, z30.2.2.1, z30.2.2.2.2.1, z30.2.2.2.2.2.1, z30.2.2.2.2.2.2.1, z30.2.2.2.2.2.2.2.1, z30.2.2.2.2.2.2.2.2.1, z30.2.2.2.2.2.2.2.2.2.1, z30.2.2.2.2.2.2.2.2.2.2.1, z30.2.2.2.2.2.2.2.2.2.2.2.1, z30.2.2.2.2.2.2.2.2.2.2.2.2.1, z30.2.2.2.2.2.2.2.2.2.2.2.2.2.1, z30.2.2.2.2.2.2.2.2.2.2.2.2.2.2.1, z30.2.2.2.2.2.2.2.2.2.2.2.2.2.2.2.1, z30.2.2.2.2.2.2.2.2.2.2.2.2.2.2.2.2.1, z30.2.2.2.2.2.2.2.2.2.2.2.2.2.2.2.2.2.1, z30.2.2.2.2.2.2.2.2.2.2.2.2.2.2.2.2.2.2.1, z30.2.2.2.2.2.2.2.2.2.2.2.2.2.2.2.2.2.2.2))) (fun z31 =>
      k (.inr (z31.1, z31.2.1, z31.2.2.1, z31.2.2.2.2.1, z31.2.2.2.2.2.1, z31.2.2.2.2.2.2.1, z31.2.2.2.2.2.2.2.1, z31.2.2.2.2.2.2.2.2.1, z31.2.2.2.2.2.2.2.2.2.1, z31.2.2.2.2.2.2.2.2.2.2.1, z31.2.2.2.2.2.2.2.2.2.2.2.1, z31.2.2.2.2.2.2.2.2.2.2.2.2.1, z31.2.2.2.2.2.2.2.2.2.2.2.2.2.1, z31.2.2.2.2.2.2.2.2.2.2.2.2.2.2.1, z31.2.2.2.2.2.2.2.2.2.2.2.2.2.2.2.1, z31.2.2.2.2.2.2.2.2.2.2.2.2.2.2.2.2.1, z31.2.2.2.2.2.2.2.2.2.2.2.2.2.2.2.2.2.1, z31.2.2.2.2.2.2.2.2.2.2.2.2.2.2.2.2.2.2.1, z31.2.2.2.2.2.2.2.2.2.2.2.2.2.2.2.2.2.2.2))))

theorem spec_Danger_jp5000011 (x : q9T) : Par (spec_Danger_j5000011 x) := by
  unfold spec_Danger_j5000011
  exact ((par_loop spec_Danger_bp2 Fuel (x.1, x.2.1, x.2.2.1, (0 : Int), x.2.2.2.1, x.2.2.2.2.1, x.2.2.2.2.2.1, x.2.2.2.2.2.2.1, x.2.2.2.2.2.2.2.1, x.2.2.2.2.2.2.2.2.1, x.2.2.2.2.2.2.2.2.2.1, x.2.2.2.2.2.2.2.2.2.2.1, x.2.2.2.2.2.2.2.2.2.2.2.1, x.2.2.2.2.2.2.2.2.2.2.2.2.1, x.2.2.2.2.2.2.2.2.2.2.2.2.2.1, x.2.2.2.2.2.2.2.2.2.2.2.2.2.2.1, x.2.2.2.2.2.2.2.2.2.2.2.2.2.2.2.1, x.2.2.2.2.2.2.2.2.2.2.2.2.2.2.2.2.1, x.2.2.2.2.2.2.2.2.2.2.2.2.2.2.2.2.2.1, x.2.2.2.2.2.2.2.2.2.2.2.2.2.2.2.2.2.2)).bind2 (fun z30 => (par_ret _)) (fun z31 => (par_ret _)))

def spec_Danger_j5000009 (x : q9T) (k : (q9T ⊕ q9T) → Option Res) : Option Res :=
    bif (x.2.2.2.2.2.2.2.2.2.2.2.2.1 == (2 : Int)) then
      spec_Ahead_k x.2.2.2.2.2.2.2.2.2.2.2 (x.2.2.2.1, (x.2.2.2.2.1, (x.2.2.2.2.2.1, (x.2.2.2.2.2.2.1, (x.2.2.2.2.2.2.2.1, (x.2.2.2.2.2.2.2.2.1, (x.2.2.2.2.2.2.2.2.2.1, x.2.2.2.2.2.2.2.2.2.2.1))))))) (fun y22 =>
        bif y22 then
          spec_Ahead_k (x.2.2.2.1, (x.2.2.2.2.1, (x.2.2.2.2.2.1, (x.2.2.2.2.2.2.1, (x.2.2.2.2.2.2.2.1, (x.2.2.2.2.2.2.2.2.1, (x.2.2.2.2.2.2.2.2.2.1, x.2.2.2.2.2.2.2.2.2.2.1))))))) x.2.2.2.2.2.2.2.2.2.2.2 (fun y23 =>
            bif y23 then
              k (.inl (x.1, true, x.2.2.1, x.2.2.2.1, x.2.2.2.2.1, x.2.2.2.2.2.1, x.2.2.2.2.2.2.1, x.2.2.2.2.2.2.2.1, x.2.2.2.2.2.2.2.2.1, x.2.2.2.2.2.2.2.2.2.1, x.2.2.2.2.2.2.2.2.2.2.1, x.2.2.2.2.2.2.2.2.2.2.2.1, x.2.2.2.2.2.2.2.2.2.2.2.2.1, x.2.2.2.2.2.2.2.2.2.2.2.2.2.1, x.2.2.2.2.2.2.2.2.2.2.2.2.2.2.1, x.2.2.2.2.2.2.2.2.2.2.2.2.2.2.2.1, x.2.2.2.2.2.2.2.2.2.2.2.2.2.2.2.2.1, x.2.2.2.2.2.2.2.2.2.2.2.2.2.2.2.2.2.1, x.2.2.2.2.2.2.2.2.2.2.2.2.2.2.2.2.2.2))
            else
              spec_Danger_j5000011 (x.1, x.2.1, x.2.2.1, x.2.2.2.1, x.2.2.2.2.1, x.2.2.2.2.2.1, x.2.2.2.2.2.2.1, x.2.2.2.2.2.2.2.1, x.2.2.2.2.2.2.2.2.1, x.2.2.2.2.2.2.2.2.2.1, x.2.2.2.2.2.2.2.2.2.2.1, x.2.2.2.2.2.2.2.2.2.2.2.1, x.2.2.2.2.2.2.2.2.2.2.2.2.1, x.2.2.2.2.2.2.2.2.2.2.2.2.2.1, x.2.2.2.2.2.2.2.2.2.2.2.2.2.2.1, x.2.2.2.2.2.2.2.2.2.2.2.2.2.2.2.1, x.2.2.2.2.2.2.2.2.2.2.2.2.2.2.2.2.1, x.2.2.2.2.2.2.2.2.2.2.2.2.2.2.2.2.2.1, x.2.2.2.2.2.2.2.2.2.2.2.2.2.2.2.2.2.2) (Sum.elim (fun z24 =>
                k (.inr (z24.1, z24.2.1, z24.2.2.1, z24.2.2.2.1, z24.2.2.2.2.1, z24.2.2.2.2.2.1, z24.2.2.2.2.2.2.1, z24.2.2.2.2.2.2.2.1, z24.2.2.2.2.2.2.2.2.1, z24.2.2.2.2.2.2.2.2.2.1, z24.2.2.2.2.2.2.2.2.2.2.1, z24.2.2.2.2.2.2.2.2.2.2.2.1, z24.2.2.2.2.2.2.2.2.2.2.2.2.1, z24.2.2.2.2.2.2.2.2.2.2.2.2.2.1, z24.2.2.2.2.2.2.2.2.2.2.2.2.2.2.1, z24.2.2.2.2.2.2.2.2.2.2.2.2.2.2.2.1, z24.2.2.2.2.2.2.2.2.2.2.2.2.2.2.2.2.1, z24.2.2.2.2.2.2.2.2.2.2.2.2.2.2.2.2.2.1, z24.2.2.2.2.2.2.2.2.2.2.2.2.2.2.2.2.2.2))) (fun z25 =>
                k (.inl (z25.1, z25.2.1, z25.2.2.1, z25.2.2.2.1, z25.2.2.2.2.1, z25.2.2.2.2.2.1, z25.2.2.2.2.2.2.1, z25.2.2.2.2.2.2.2.1, z25.2.2.2.2.2.2.2.2.1, z25.2.2.2.2.2.2.2.2.2.1, z25.2.2.2.2.2.2.2.2.2.2.1, z25.2.2.2.2.2.2.2.2.2.2.2.1, z25.2.2.2.2.2.2.2.2.2.2.2.2.1, z25.2.2.2.2.2.2.2.2.2.2.2.2.2.1, z25.2.2.2.2.2.2.2.2.2.2.2.2.2.2.1, z25.2.2.2.2.2.2.2.2.2.2.2.2.2.2.2.1, z25.2.2.2.2.2.2.2.2.2.2.2.2.2.2.2.2.1, z25.2.2.2.2.2.2.2.2.2.2.2.2.2.2.2.2.2.1, z25.2.2.2.2.2.2.2.2.2.2.2.2.2.2.2.2.2.2)))))
        else
          spec_Danger_j5000011 (x.1, x.2.1, x.2.2.1, x.2.2.2.1, x.2.2.2.2.1, x.2.2.2.2.2.1, x.2.2.2.2.2.2.1, x.2.2.2.2.2.2.2.1, x.2.2.2.2.2.2.2.2.1, x.2.2.2.2.2.2.2.2.2.1, x.2.2.2.2.2.2.2.2.2.2.1, x.2.2.2.2.2.2.2.2.2.2.2.1, x.2.2.2.2.2.2.2.2.2.2.2.2.1, x.2.2.2.2.2.2.2.2.2.2.2.2.2.1, x.2.2.2.2.2.2.2.2.2.2.2.2.2.2.1, x.2.2.2.2.2.2.2.2.2.2.2.2.2.2.2.1, x.2.2.2.2.2.2.2.2.2.2.2.2.2.2.2.2.1, x.2.2.2.2.2.2.2.2.2.2.2.2.2.2.2.2.2.1, x.2.2.2.2.2.2.2.2.2.2.2.2.2.2.2.2.2.2) (Sum.elim (fun z26 =>
            k (.inr (z26.1, z26.2.1, z26.2.2.1, z26.2.2.2.1, z26.2.2.2.2.1, z26.2.2.2.2.2.1, z26.2.2.2.2.2.2.1, z26.2.2.2.2.2.2.2.1, z26.2.2.2.2.2.2.2.2.1, z26.2.2.2.2.2.2.2.2.2.1, z26.2.2.2.2.2.2.2.2.2.2.1, z26.2.2.2.2.2.2.2.2.2.2.2.1, z26.2.2.2.2.2.2.2.2.2.2.2.2.1, z26.2.2.2.2.2.2.2.2.2.2.2.2.2.1, z26.2.2.2.2.2.2.2.2.2.2.2.2.2.2.1, z26.2.2.2.2.2.2.2.2.2.2.2.2.2.2.2.1, z26.2.2.2.2.2.2.2.2.2.2.2.2.2.2.2.2.1, z26.2.2.2.2.2.2.2.2.2.2.2.2.2.2.2.2.2.1, z26.2.2.2.2.2.2.2.2.2.2.2.2.2.2.2.2.2.2))) (fun z27 =>
            k (.inl (z27.1, z27.2.1, z27.2.2.1, z27.2.2.2.1, z27.2.2.2.2.1, z27.2.2.2.2.2.1, z27.2.2.2.2.2.2.1, z27.2.2.2.2.2.2.2.1, z27.2.2.2.2.2.2.2.2.1, z27.2.2.2.2.2.2.2.2.2.1, z27.2.2.2.2.2.2.2.2.2.2.1, z27.2.2.2.2.2.2.2.2.2.2.2.1, z27.2.2.2.2.2.2.2.2.2.2.2.2.1, z27.2.2.2.2.2.2.2.2.2.2.2.2.2.1, z27.2.2.2.2.2.2.2.2.2.2.2.2.2.2.1, z27.2.2.2.2.2.2.2.2.2.2.2.2.2.2.2.1, z27.2.2.2.2.2.2.2.2.2.2.2.2.2.2.2.2.1, z27.2.2.2.2.2.2.2.2.2.2.2.2.2.2.2.2.2.1, z27.2.2.2.2.2.2.2.2.2.2.2.2.2.2.2.2.2.2)))))
    else
      spec_Danger_j5000011 (x.1, x.2.1, x.2.2.1, x.2.2.2.1, x.2.2.2.2.1, x.2.2.2.2.2.1, x.2.2.2.2.2.2.1, x.2.2.2.2.2.2.2.1, x.2.2.2.2.2.2.2.2.1, x.2.2.2.2.2.2.2.2.2.1, x.2.2.2.2.2.2.2.2.2.2.1, x.2.2.2.2.2.2.2.2.2.2.2.1, x.2.2.2.2.2.2.2.2.2.2.2.2.1, x.2.2.2.2.2.2.2.2.2.2.2.2.2.1, x.2.2.2.2.2.2.2.2.2.2.2.2.2.2.1, x.2.2.2.2.2.2.2.2.2.2.2.2.2.2.2.1, x.2.2.2.2.2.2.2.2.2.2.2.2.2.2.2.2.1, x.2.2.2.2.2.2.2.2.2.2.2.2.2.2.2.2.2.1, x.2.2.2.2.2.2.2.2.2.2.2.2.2.2.2.2.2.2) (Sum.elim (fun z28 =>
        k (.inr (z28.1, z28.2.1, z28.2.2.1, z28.2.2.2.1, z28.2.2.2.2.1, z28.2.2.2.2.2.1, z28.2.2.2.2.2.2.1, z28.2.2.2.2.2.2.2.1, z28.2.2.2.2.2.2.2.2.1, z28.2.2.2.2.2.2.2.2.2.1, z28.2.2.2.2.2.2.2.2.2.2.1, z28.2.2.2.2.2.2.2.2.2.2.2.1, z28.2.2.2.2.2.2.2.2.2.2.2.2.1, z28.2.2.2.2.2.2.2.2.2.2.2.2.2.1, z28.2.2.2.2.2.2.2.2.2.2.2.2.2.2.1, z28.2.2.2.2.2.2.2.2.2.2.2.2.2.2.2.1, z28.2.2.2.2.2.2.2.2.2.2.2.2.2.2.2.2.1, z28.2.2.2.2.2.2.2.2.2.2.2.2.2.2.2.2.2.1, z28.2.2.2.2.2.2.2.2.2.2.2.2.2.2.2.2.2.2))) (fun z29 =>
        k (.inl (z29.1, z29.2.1, z29.2.2.1, z29.2.2.2.1, z29.2.2.2.2.1, z29.2.2.2.2.2.1, z29.2.2.2.2.2.2.1, z29.2.2.2.2.2.2.2.1, z29.2.2.2.2.2.2.2.2.1, z29.2.2.2.2.2.2.2.2.2.1, z29.2.2.2.2.2.2.2.2.2.2.1, z29.2.2.2.2.2.2.2.2.2.2.2.1, z29.2.2.2.2.2.2.2.2.2.2.2.2.1, z29.2.2.2.2.2.2.2.2.2.2.2.2.2.1, z29.2.2.2.2.2.2.2.2.2.2.2.2.2.2.1, z29.2.2.2.2.2.2.2.2.2.2.2.2.2.2.2.1, z29.2.2.2.2.2.2.2.2.2.2.2.2.2.2.2.2.1, z29.2.2.2.2.2.2.2.2.2.2.2.2.2.2.2.2.2.1, z29.2.2.2.2.2.2.2.2.2.2.2.2.2.2.2.2.2.2))))

theorem spec_Danger_jp5000009 (x : q9T) : Par (spec_Danger_j5000009 x) := by
  unfold spec_Danger_j5000009
  exact (par_bif ((spec_Ahead_p x.2.2.2.2.2.2.2.2.2.2.2 (x.2.2.2.1, (x.2.2.2.2.1, (x.2.2.2.2.2.1, (x.2.2.2.2.2.2.1, (x.2.2.2.2.2.2.2.1, (x.2.2.2.2.2.2.2.2.1, (x.2.2.2.2.2.2.2.2.2.1, x.2.2.2.2.2.2.2.2.2.2.1)))))))).bind fun y22 => (par_bif ((spec_Ahead_p (x.2.2.2.1, (x.2.2.2.2.1, (x.2.2.2.2.2.1, (x.2.2.2.2.2.2.1, (x.2.2.2.2.2.2.2.1, (x.2.2.2.2.2.2.2.2.1, (x.2.2.2.2.2.2.2.2.2.1, x.2.2.2.2.2.2.2.2.2.2.1))))))) x.2.2.2.2.2.2.2.2.2.2.2).bind fun y23 => (par_bif (par_ret _) ((spec_Danger_jp5000011 (x.1, x.2.1, x.2.2.1, x.2.2.2.1, x.2.2.2.2.1, x.2.2.2.2.2.1, x.2.2.2.2.2.2.1, x.2.2.2.2.2.2.2.1, x.2.2.2.2.2.2.2.2.1, x.2.2.2.2.2.2.2.2.2.1, x.2.2.2.2.2.2.2.2.2.2.1, x.2.2.2.2.2.2.2.2.2.2.2.1, x.2.2.2.2.2.2.2.2.2.2.2.2.1, x.2.2.2.2.2.2.2.2.2.2.2.2.2.1, x.2.2.2.2.2.2.2.2.2.2.2.2.2.2.1, x.2.2.2.2.2.2.2.2.2.2.2.2.2.2.2.1, x.2.2.2.2.2.2.2.2.2.2.2.2.2.2.2.2.1, x.2.2.2.2.2.2.2.2.2.2.2.2.2.2.2.2.2.1, x.2.2.2.2.2.2.2.2.2.2.2.2.2.2.2.2.2.2)).bind2 (fun z24 => (par_ret _)) (fun z25 => (par_ret _))))) ((spec_Danger_jp5000011 (x.1, x.2.1, x.2.2.1, x.2.2.2.1, x.2.2.2.2.1, x.2.2.2.2.2.1, x.2.2.2.2.2.2.1, x.2.2.2.2.2.2.2.1, x.2.2.2.2.2.2.2.2.1, x.2.2.2.2.2.2.2.2.2.1, x.2.2.2.2.2.2.2.2.2.2.1, x.2.2.2.2.2.2.2.2.2.2.2.1, x.2.2.2.2.2.2.2.2.2.2.2.2.1, x.2.2.2.2.2.2.2.2.2.2.2.2.2.1, x.2.2.2.2.2.2.2.2.2.2.2.2.2.2.1, x.2.2.2.2.2.2.2.2.2.2.2.2.2.2.2.1, x.2.2.2.2.2.2.2.2.2.2.2.2.2.2.2.2.1, x.2.2.2.2.2.2.2.2.2.2.2.2.2.2.2.2.2.1, x.2.2.2.2.2.2.2.2.2.2.2.2.2.2.2.2.2.2)).bind2 (fun z26 => (par_ret _)) (fun z27 => (par_ret _))))) ((spec_Danger_jp5000011 (x.1, x.2.1, x.2.2.1, x.2.2.2.1, x.2.2.2.2.1, x.2.2.2.2.2.1, x.2.2.2.2.2.2.1, x.2.2.2.2.2.2.2.1, x.2.2.2.2.2.2.2.2.1, x.2.2.2.2.2.2.2.2.2.1, x.2.2.2.2.2.2.2.2.2.2.1, x.2.2.2.2.2.2.2.2.2.2.2.1, x.2.2.2.2.2.2.2.2.2.2.2.2.1, x.2.2.2.2.2.2.2.2.2.2.2.2.2.1, x.2.2.2.2.2.2.2.2.2.2.2.2.2.2.1, x.2.2.2.2.2.2.2.2.2.2.2.2.2.2.2.1, x.2.2.2.2.2.2.2.2.2.2.2.2.2.2.2.2.1, x.2.2.2.2.2.2.2.2.2.2.2.2.2.2.2.2.2.1, x.2.2.2.2.2.2.2.2.2.2.2.2.2.2.2.2.2.2)).bind2 (fun z28 => (par_ret _)) (fun z29 => (par_ret _))))

def spec_Danger_b0 (x : q10T) (k : q10T ⊕ (q10T ⊕ q10T) → Option Res) : Option Res :=
    bif (decide (x.2.2.1 < (x.1.length : Int))) then
      if 0 ≤ x.2.2.1 ∧ x.2.2.1 < (x.1.length : Int) then
        bif ((rd (Ty.zero tTxn) x.1 x.2.2.1).2.1 == (2 : Int)) then
          bif (rd (Ty.zero tTxn) x.1 x.2.2.1).2.2.2.2.2.2.1 then
            spec_Ahead_k x.2.2.2 (rd (Ty.zero tTxn) x.1 x.2.2.1) (fun y5 =>
              bif y5 then
                k (.inr (.inl (x.1, true, x.2.2.1, x.2.2.2.1, x.2.2.2.2.1, x.2.2.2.2.2.1, x.2.2.2.2.2.2.1, x.2.2.2.2.2.2.2.1, x.2.2.2.2.2.2.2.2.1, x.2.2.2.2.2.2.2.2.2.1, x.2.2.2.2.2.2.2.2.2.2)))
              else
                spec_Danger_j5000009 (x.1, x.2.1, x.2.2.1, x.2.2.2.1, x.2.2.2.2.1, x.2.2.2.2.2.1, x.2.2.2.2.2.2.1, x.2.2.2.2.2.2.2.1, x.2.2.2.2.2.2.2.2.1, x.2.2.2.2.2.2.2.2.2.1, x.2.2.2.2.2.2.2.2.2.2, (rd (Ty.zero tTxn) x.1 x.2.2.1).1, (rd (Ty.zero tTxn) x.1 x.2.2.1).2.1, (rd (Ty.zero tTxn) x.1 x.2.2.1).2.2.1, (rd (Ty.zero tTxn) x.1 x.2.2.1).2.2.2.1, (rd (Ty.zero tTxn) x.1 x.2.2.1).2.2.2.2.1, (rd (Ty.zero tTxn) x.1 x.2.2.1).2.2.2.2.2.1, (rd (Ty.zero tTxn) x.1 x.2.2.1).2.2.2.2.2.2.1, (rd (Ty.zero tTxn) x.1 x.2.2.1).2.2.2.2.2.2.2) (Sum.elim (fun z6 =>
                  k (.inr (.inl (z6.1, z6.2.1, z6.2.2.1, z6.2.2.2.1, z6.2.2.2.2.1, z6.2.2.2.2.2.1, z6.2.2.2.2.2.2.1, z6.2.2.2.2.2.2.2.1, z6.2.2.2.2.2.2.2.2.1, z6.2.2.2.2.2.2.2.2.2.1, z6.2.2.2.2.2.2.2.2.2.2.1)))) (fun z7 =>
                  k (.inl (z7.1, z7.2.1, (IntKind.wrap .i64 (z7.2.2.1 + (1 : Int))), z7.2.2.2.1, z7.2.2.2.2.1, z7.2.2.2.2.2.1, z7.2.2.2.2.2.2.1, z7.2.2.2.2.2.2.2.1, z7.2.2.2.2.2.2.2.2.1, z7.2.2.2.2.2.2.2.2.2.1, z7.2.2.2.2.2.2.2.2.2.2.1)))))
          else
            spec_Danger_j5000009 (x.1, x.2.1, x.2.2.1, x.2.2.2.1, x.2.2.2.2.1, x.2.2.2.2.2.1, x.2.2.2.2.2.2.1, x.2.2.2.2.2.2.2.1, x.2.2.2.2.2.2.2.2.1, x.2.2.2.2.2.2.2.2.2.1, x.2.2.2.2.2.2.2.2.2.2, (rd (Ty.zero tTxn) x.1 x.2.2.1).1, (rd (Ty.zero tTxn) x.1 x.2.2.1).2.1, (rd (Ty.zero tTxn) x.1 x.2.2.1).2.2.1, (rd (Ty.zero tTxn) x.1 x.2.2.1).2.2.2.1, (rd (Ty.zero tTxn) x.1 x.2.2.1).2.2.2.2.1, (rd (Ty.zero tTxn) x.1 x.2.2.1).2.2.2.2.2.1, (rd (Ty.zero tTxn) x.1 x.2.2.1).2.2.2.2.2.2.1, (rd (Ty.zero tTxn) x.1 x.2.2.1).2.2.2.2.2.2.2) (Sum.elim (fun z8 =>
              k (.inr (.inl (z8.1, z8.2.1, z8.2.2.1, z8.2.2.2.1, z8.2.2.2.2.1, z8.2.2.2.2.2.1, z8.2.2.2.2.2.2.1, z8.2.2.2.2.2.2.2.1, z8.2.2.2.2.2.2.2.2.1, z8.2.2.2.2.2.2.2.2.2.1, z8.2.2.2.2.2.2.2.2.2.2.1)))) (fun z9 =>
              k (.inl (z9.1, z9.2.1, (IntKind.wrap .i64 (z9.2.2.1 + (1 : Int))), z9.2.2.2.1, z9.2.2.2.2.1, z9.2.2.2.2.2.1, z9.2.2.2.2.2.2.1, z9.2.2.2.2.2.2.2.1, z9.2.2.2.2.2.2.2.2.1, z9.2.2.2.2.2.2.2.2.2.1, z9.2.2.2.2.2.2.2.2.2.2.1))))
        else
          bif ((rd (Ty.zero tTxn) x.1 x.2.2.1).2.1 == (3 : Int)) then
            bif (rd (Ty.zero tTxn) x.1 x.2.2.1).2.2.2.2.2.2.1 then
              spec_Ahead_k x.2.2.2 (rd (Ty.zero tTxn) x.1 x.2.2.1) (fun y10 =>
                bif y10 then
                  k (.inr (.inl (x.1, true, x.2.2.1, x.2.2.2.1, x.2.2.2.2.1, x.2.2.2.2.2.1, x.2.2.2.2.2.2.1, x.2.2.2.2.2.2.2.1, x.2.2.2.2.2.2.2.2.1, x.2.2.2.2.2.2.2.2.2.1, x.2.2.2.2.2.2.2.2.2.2)))
                else
                  spec_Danger_j5000009 (x.1, x.2.1, x.2.2.1, x.2.2.2.1, x.2.2.2.2.1, x.2.2.2.2.2.1, x.2.2.2.2.2.2.1, x.2.2.2.2.2.2.2.1, x.2.2.2.2.2.2.2.2.1, x.2.2.2.2.2.2.2.2.2.1, x.2.2.2.2.2.2.2.2.2.2, (rd (Ty.zero tTxn) x.1 x.2.2.1).1, (rd (Ty.zero tTxn) x.1 x.2.2.1).2.1, (rd (Ty.zero tTxn) x.1 x.2.2.1).2.2.1, (rd (Ty.zero tTxn) x.1 x.2.2.1).2.2.2.1, (rd (Ty.zero tTxn) x.1 x.2.2.1).2.2.2.2.1, (rd (Ty.zero tTxn) x.1 x.2.2.1).2.2.2.2.2.1, (rd (Ty.zero tTxn) x.1 x.2.2.1).2.2.2.2.2.2.1, (rd (Ty.zero tTxn) x.1 x.2.2.1).2.2.2.2.2.2.2) (Sum.elim (fun z11 =>
                    k (.inr (.inl (z11.1, z11.2.1, z11.2.2.1, z11.2.2.2.1, z11.2.2.2.2.1, z11.2.2.2.2.2.1, z11.2.2.2.2.2.2.1, z11.2.2.2.2.2.2.2.1, z11.2.2.2.2.2.2.2.2.1, z11.2.2.2.2.2.2.2.2.2.1, z11.2.2.2.2.2.2.2.2.2.2.1)))) (fun z12 =>
                    k (.inl (z12.1, z12.2.1, (IntKind.wrap .i64 (z12.2.2.1 + (1 : Int))), z12.2.2.2.1, z12.2.2.2.2.1, z12.2.2.2.2.2.1, z12.2.2.2.2.2.2.1, z12.2.2.2.2.2.2.2.1, z12.2.2.2.2.2.2.2.2.1, z12.2.2.2.2.2.2.2.2.2.1, z12.2.2.2.2.2.2.2.2.2.2.1)))))
            else
              spec_Danger_j5000009 (x.1, x.2.1, x.2.2.1, x.2.2.2.1, x.2.2.2.2.1, x.2.2.2.2.2.1, x.2.2.2.2.2.2.1, x.2.2.2.2.2.2.2.1, x.2.2.2.2.2.2.2.2.1, x.2.2.2.2.2.2.2.2.2.1, x.2.2.2.2.2.2.2.2.2.2, (rd (Ty.zero tTxn) x.1 x.2.2.1).1, (rd (Ty.zero tTxn) x.1 x.2.2.1).2.1, (rd (Ty.zero tTxn) x.1 x.2.2.1).2.2.1, (rd (Ty.zero tTxn) x.1 x.2.2.1).2.2.2.1, (rd (Ty.zero tTxn) x.1 x.2.2.1).2.2.2.2.1, (rd (Ty.zero tTxn) x.1 x.2.2.1).2.2.2.2.2.1, (rd (Ty.zero tTxn) x.1 x.2.2.1).2.2.2.2.2.2.1, (rd (Ty.zero tTxn) x.1 x.2.2.1).2.2.2.2.2.2.2) (Sum.elim (fun z13 =>
                k (.inr (.inl (z13.1, z13.2.1, z13.2.2.1, z13.2.2.2.1, z13.2.2.2.2.1, z13.2.2.2.2.2.1, z13.2.2.2.2.2.2.1, z13.2.2.2.2.2.2.2.1, z13.2.2.2.2.2.2.2.2.1, z13.2.2.2.2.2.2.2.2.2.1, z13.2.2.2.2.2.2.2.2.2.2.1)))) (fun z14 =>
                k (.inl (z14.1, z14.2.1, (IntKind.wrap .i64 (z14.2.2.1 + (1 : Int))), z14.2.2.2.1, z14.2.2.2.2.1, z14.2.2.2.2.2.1, z14.2.2.2.2.2.2.1, z14.2.2.2.2.2.2.2.1, z14.2.2.2.2.2.2.2.2.1, z14.2.2.2.2.2.2.2.2.2.1, z14.2.2.2.2.2.2.2.2.2.2.1))))
          else
            spec_Danger_j5000009 (x.1, x.2.1, x.2.2.1, x.2.2.2.1, x.2.2.2.2.1, x.2.2.2.2.2.1, x.2.2.2.2.2.2.1, x.2.2.2.2.2.2.2.1, x.2.2.2.2.2.2.2.2.1, x.2.2.2.2.2.2.2.2.2.1, x.2.2.2.2.2.2.2.2.2.2, (rd (Ty.zero tTxn) x.1 x.2.2.1).1, (rd (Ty.zero tTxn) x.1 x.2.2.1).2.1, (rd (Ty.zero tTxn) x.1 x.2.2.1).2.2.1, (rd (Ty.zero tTxn) x.1 x.2.2.1).2.2.2.1, (rd (Ty.zero tTxn) x.1 x.2.2.1).2.2.2.2.1, (rd (Ty.zero tTxn) x.1 x.2.2.1).2.2.2.2.2.1, (rd (Ty.zero tTxn) x.1 x.2.2.1).2.2.2.2.2.2.1, (rd (Ty.zero tTxn) x.1 x.2.2.1).2.2.2.2.2.2.2) (Sum.elim (fun z15 =>
              k (.inr (.inl (z15.1, z15.2.1, z15.2.2.1, z15.2.2.2.1, z15.2.2.2.2.1, z15.2.2.2.2.2.1, z15.2.2.2.2.2.2.1, z15.2.2.2.2.2.2.2.1, z15.2.2.2.2.2.2.2.2.1, z15.2.2.2.2.2.2.2.2.2.1, z15.2.2.2.2.2.2.2.2.2.2.1)))) (fun z16 =>
              k (.inl (z16.1, z16.2.1, (IntKind.wrap .i64 (z16.2.2.1 + (1 : Int))), z16.2.2.2.1, z16.2.2.2.2.1, z16.2.2.2.2.2.1, z16.2.2.2.2.2.2.1, z16.2.2.2.2.2.2.2.1, z16.2.2.2.2.2.2.2.2.1, z16.2.2.2.2.2.2.2.2.2.1, z16.2.2.2.2.2.2.2.2.2.2.1))))
      else none
    else
      k (.inr (.inr (x.1, x.2.1, x.2.2.1, x.2.2.2.1, x.2.2.2.2.1, x.2.2.2.2.2.1, x.2.2.2.2.2.2.1, x.2.2.2.2.2.2.2.1, x.2.2.2.2.2.2.2.2.1, x.2.2.2.2.2.2.2.2.2.1, x.2.2.2.2.2.2.2.2.2.2)))

theorem spec_Danger_bp0 (x : q10T) : Par (spec_Danger_b0 x) := by
  unfold spec_Danger_b0
  exact (par_bif (par_ite (c := 0 ≤ x.2.2.1 ∧ x.2.2.1 < (x.1.length : Int)) (par_bif (par_bif ((spec_Ahead_p x.2.2.2 (rd (Ty.zero tTxn) x.1 x.2.2.1)).bind fun y5 => (par_bif (par_ret _) ((spec_Danger_jp5000009 (x.1, x.2.1, x.2.2.1, x.2.2.2.1, x.2.2.2.2.1, x.2.2.2.2.2.1, x.2.2.2.2.2.2.1, x.2.2.2.2.2.2.2.1, x.2.2.2.2.2.2.2.2.1, x.2.2.2.2.2.2.2.2.2.1, x.2.2.2.2.2.2.2.2.2.2, (rd (Ty.zero tTxn) x.1 x.2.2.1).1, (rd (Ty.zero tTxn) x.1 x.2.2.1).2.1, (rd (Ty.zero tTxn) x.1 x.2.2.1).2.2.1, (rd (Ty.zero tTxn) x.1 x.2.2.1).2.2.2.1, (rd (Ty.zero tTxn) x.1 x.2.2.1).2.2.2.2.1, (rd (Ty.zero tTxn) x.1 x.2.2.1).2.2.2.2.2.1, (rd (Ty.zero tTxn) x.1 x.2.2.1).2.2.2.2.2.2.1, (rd (Ty.zero tTxn) x.1 x.2.2.1).2.2.2.2.2.2.2)).bind2 (fun z6 => (par_ret _)) (fun z7 => (par_ret _))))) ((spec_Danger_jp5000009 (x.1, x.2.1, x.2.2.1, x.2.2.2.1, x.2.2.2.2.1, x.2.2.2.2.2.1, x.2.2.2.2.2.2.1, x.2.2.2.2.2.2.2.1, x.2.2.2.2.2.2.2.2.1, x.2.2.2.2.2.2.2.2.2.1, x.2.2.2.2.2.2.2.2.2.2, (rd (Ty.zero tTxn) x.1 x.2.2.1).1, (rd (Ty.zero tTxn) x.1 x.2.2.1).2.1, (rd (Ty.zero tTxn) x.1 x.2.2.1).2.2.1, (rd (Ty.zero tTxn) x.1 x.2.2.1).2.2.2.1, (rd (Ty.zero tTxn) x.1 x.2.2.1).2.2.2.2.1, (rd (Ty.zero tTxn) x.1 x.2.2.1).2.2.2.2.2.1, (rd (Ty.zero tTxn) x.1 x.2.2.1).2.2.2.2.2.2.1, (rd (Ty.zero tTxn) x.1 x.2.2.1).2.2.2.2.2.2.2)).bind2 (fun z8 => (par_ret _)) (fun z9 => (par_ret _)))) (par_bif (par_bif ((spec_Ahead_p x.2.2.2 (rd (Ty.zero tTxn) x.1 x.2.2.1)).bind fun y10 => (par_bif (par_ret _) ((spec_Danger_jp5000009 (x.1, x.2.1, x.2.2.1, x.2.2.2.1, x.2.2.2.2.1, x.2.2.2.2.2.1, x.2.2.2.2.2.2.1, x.2.2.2.2.2.2.2.1, x.2.2.2.2.2.2.2.2.1, x.2.2.2.2.2.2.2.2.2.1, x.2.2.2.2.2.2.2.2.2.2, (rd (Ty.zero tTxn) x.1 x.2.2.1).1, (rd (Ty.zero tTxn) x.1 x.2.2.1).2.1, (rd (Ty.zero tTxn) x.1 x.2.2.1).2.2.1, (rd (Ty.zero tTxn) x.1 x.2.2.1).2.2.2.1, (rd (Ty.zero tTxn) x.1 x.2.2.1).2.2.2.2.1, (rd (Ty.zero tTxn) x.1 x.2.2.1).2.2.2.2.2.1, (rd (Ty.zero tTxn) x.1 x.2.2.1).2.2.2.2.2.2.1, (rd (Ty.zero tTxn) x.1 x.2.2.1).2.2.2.2.2.2.2)).bind2 (fun z11 => (par_ret _)) (fun z12 => (par_ret _))))) ((spec_Danger_jp5000009 (x.1, x.2.1, x.2.2.1, x.2.2.2.1, x.2.2.2.2.1, x.2.2.2.2.2.1, x.2.2.2.2.2.2.1, x.2.2.2.2.2.2.2.1, x.2.2.2.2.2.2.2.2.1, x.2.2.2.2.2.2.2.2.2.1, x.2.2.2.2.2.2.2.2.2.2, (rd (Ty.zero tTxn) x.1 x.2.2.1).1, (rd (Ty.zero tTxn) x.1 x.2.2.1).2.1, (rd (Ty.zero tTxn) x.1 x.2.2.1).2.2.1, (rd (Ty.zero tTxn) x.1 x.2.2.1).2.2.2.1, (rd (Ty.zero tTxn) x.1 x.2.2.1).2.2.2.2.1, (rd (Ty.zero tTxn) x.1 x.2.2.1).2.2.2.2.2.1, (rd (Ty.zero tTxn) x.1 x.2.2.1).2.2.2.2.2.2.1, (rd (Ty.zero tTxn) x.1 x.2.2.1).2.2.2.2.2.2.2)).bind2 (fun z13 => (par_ret _)) (fun z14 => (par_ret _)))) ((spec_Danger_jp5000009 (x.1, x.2.1, x.2.2.1, x.2.2.2.1, x.2.2.2.2.1, x.2.2.2.2.2.1, x.2.2.2.2.2.2.1, x.2.2.2.2.2.2.2.1, x.2.2.2.2.2.2.2.2.1, x.2.2.2.2.2.2.2.2.2.1, x.2.2.2.2.2.2.2.2.2.2, (rd (Ty.zero tTxn) x.1 x.2.2.1).1, (rd (Ty.zero tTxn) x.1 x.2.2.1).2.1, (rd (Ty.zero tTxn) x.1 x.2.2.1).2.2.1, (rd (Ty.zero tTxn) x.1 x.2.2.1).2.2.2.1, (rd (Ty.zero tTxn) x.1 x.2.2.1).2.2.2.2.1, (rd (Ty.zero tTxn) x.1 x.2.2.1).2.2.2.2.2.1, (rd (Ty.zero tTxn) x.1 x.2.2.1).2.2.2.2.2.2.1, (rd (Ty.zero tTxn) x.1 x.2.2.1).2.2.2.2.2.2.2)).bind2 (fun z15 => (par_ret _)) (fun z16 => (par_ret _))))) par_none) (par_ret _))

def spec_Danger_j5000003 (x : q8T) (k : q8T → Option Res) : Option Res :=
    loopK spec_Danger_b0 Fuel (x.1, x.2.1, (0 : Int), x.2.2.1, x.2.2.2.1, x.2.2.2.2.1, x.2.2.2.2.2.1, x.2.2.2.2.2.2.1, x.2.2.2.2.2.2.2.1, x.2.2.2.2.2.2.2.2.1, x.2.2.2.2.2.2.2.2.2) (Sum.elim (fun z20 =>
      k (z20.1, z20.2.1, z20.2.2.2.1, z20.2.2.2.2.1, z20.2.2.2.2.2.1, z20.2.2.2.2.2.2.1, z20.2.2.2.2.2.2.2.1, z20.2.2.2.2.2.2.2.2.1, z20.2.2.2.2.2.2.2.2.2.1, z20.2.2.2.2.2.2.2.2.2.2)) (fun z21 =>
      k (z21.1, false, z21.2.2.2.1, z21.2.2.2.2.1, z21.2.2.2.2.2.1, z21.2.2.2.2.2.2.1, z21.2.2.2.2.2.2.2.1, z21.2.2.2.2.2.2.2.2.1, z21.2.2.2.2.2.2.2.2.2.1, z21.2.2.2.2.2.2.2.2.2.2)))

theorem spec_Danger_jp5000003 (x : q8T) : Par (spec_Danger_j5000003 x) := by
  unfold spec_Danger_j5000003
  exact ((par_loop spec_Danger_bp0 Fuel (x.1, x.2.1, (0 : Int), x.2.2.1, x.2.2.2.1, x.2.2.2.2.1, x.2.2.2.2.2.1, x.2.2.2.2.2.2.1, x.2.2.2.2.2.2.2.1, x.2.2.2.2.2.2.2.2.1, x.2.2.2.2.2.2.2.2.2)).bind2 (fun z20 => (par_ret _)) (fun z21 => (par_ret _)))

def spec_Danger_d (a0 : dTxn) (a1 : (List dTxn)) (k : Bool → Option Res) : Option Res :=
  spec_InOf_k a0 a1 (fun y1 =>
    bif y1 then
      spec_OutOf_k a0 a1 (fun y2 =>
        bif y2 then
          k true
        else
          spec_Danger_j5000003 (a1, false, a0.1, a0.2.1, a0.2.2.1, a0.2.2.2.1, a0.2.2.2.2.1, a0.2.2.2.2.2.1, a0.2.2.2.2.2.2.1, a0.2.2.2.2.2.2.2) (fun z3 =>
            k z3.2.1))
    else
      spec_Danger_j5000003 (a1, false, a0.1, a0.2.1, a0.2.2.1, a0.2.2.2.1, a0.2.2.2.2.1, a0.2.2.2.2.2.1, a0.2.2.2.2.2.2.1, a0.2.2.2.2.2.2.2) (fun z4 =>
        k z4.2.1))

theorem spec_Danger_h : ∃ g : dTxn → (List dTxn) → (Bool → Option Res) → Option Res, g = spec_Danger_d := ⟨_, rfl⟩
def spec_Danger_k : dTxn → (List dTxn) → (Bool → Option Res) → Option Res := Classical.choose spec_Danger_h
theorem spec_Danger_e : spec_Danger_k = spec_Danger_d := Classical.choose_spec spec_Danger_h

theorem spec_Danger_p (a0 : dTxn) (a1 : (List dTxn)) : Par (spec_Danger_k a0 a1) := by
  rw [spec_Danger_e]
  unfold spec_Danger_d
  exact ((spec_InOf_p a0 a1).bind fun y1 => (par_bif ((spec_OutOf_p a0 a1).bind fun y2 => (par_bif (par_ret _) ((spec_Danger_jp5000003 (a1, false, a0.1, a0.2.1, a0.2.2.1, a0.2.2.2.1, a0.2.2.2.2.1, a0.2.2.2.2.2.1, a0.2.2.2.2.2.2.1, a0.2.2.2.2.2.2.2)).bind fun z3 => (par_ret _)))) ((spec_Danger_jp5000003 (a1, false, a0.1, a0.2.1, a0.2.2.1, a0.2.2.2.1, a0.2.2.2.2.1, a0.2.2.2.2.2.1, a0.2.2.2.2.2.2.1, a0.2.2.2.2.2.2.2)).bind fun z4 => (par_ret _))))

def impl_ReadyDanger_1_d (a0 : dTxn) (a1 : Int) (a2 : Int) (a3 : Int) (a4 : Int) (a5 : (List dRange)) (a6 : (List dWrite)) (a7 : Bool) (a8 : ByteArray) (k : q29T → Option Res) : Option Res :=
  impl_isReady_k a0 (fun y1 =>
    bif y1 then
      impl_Ahead_k (a1, (a2, (a3, (a4, (a5, (a6, (a7, a8))))))) a0 (fun y2 =>
        k (y2, a1, a2, a3, a4, a5, a6, a7, a8))
    else
      k (false, a1, a2, a3, a4, a5, a6, a7, a8))

theorem impl_ReadyDanger_1_h : ∃ g : dTxn → Int → Int → Int → Int → (List dRange) → (List dWrite) → Bool → ByteArray → (q29T → Option Res) → Option Res, g = impl_ReadyDanger_1_d := ⟨_, rfl⟩
def impl_ReadyDanger_1_k : dTxn → Int → Int → Int → Int → (List dRange) → (List dWrite) → Bool → ByteArray → (q29T → Option Res) → Option Res := Classical.choose impl_ReadyDanger_1_h
theorem impl_ReadyDanger_1_e : impl_ReadyDanger_1_k = impl_ReadyDanger_1_d := Classical.choose_spec impl_ReadyDanger_1_h

theorem impl_ReadyDanger_1_p (a0 : dTxn) (a1 : Int) (a2 : Int) (a3 : Int) (a4 : Int) (a5 : (List dRange)) (a6 : (List dWrite)) (a7 : Bool) (a8 : ByteArray) : Par (impl_ReadyDanger_1_k a0 a1 a2 a3 a4 a5 a6 a7 a8) := by
  rw [impl_ReadyDanger_1_e]
  unfold impl_ReadyDanger_1_d
  exact ((impl_isReady_p a0).bind fun y1 => (par_bif ((impl_Ahead_p (a1, (a2, (a3, (a4, (a5, (a6, (a7, a8))))))) a0).bind fun y2 => (par_ret _)) (par_ret _)))

def slices_IndexFunc_Txn_ReadyDanger_1_b0 (x : q15T) (k : q15T ⊕ (q15T ⊕ q15T) → Option Res) : Option Res :=
    bif (decide (x.2.2.2.1 < x.2.2.1)) then
      if 0 ≤ x.2.2.2.1 ∧ x.2.2.2.1 < (x.1.length : Int) then
        impl_ReadyDanger_1_k (rd (Ty.zero tTxn) x.1 x.2.2.2.1) x.2.2.2.2.1 x.2.2.2.2.2.1 x.2.2.2.2.2.2.1 x.2.2.2.2.2.2.2.1 x.2.2.2.2.2.2.2.2.1 x.2.2.2.2.2.2.2.2.2.1 x.2.2.2.2.2.2.2.2.2.2.1 x.2.2.2.2.2.2.2.2.2.2.2 (fun y3 =>
          bif y3.1 then
            k (.inr (.inl (x.1, x.2.2.2.1, x.2.2.1, x.2.2.2.1, y3.2.1, y3.2.2.1, y3.2.2.2.1, y3.2.2.2.2.1, y3.2.2.2.2.2.1, y3.2.2.2.2.2.2.1, y3.2.2.2.2.2.2.2.1, y3.2.2.2.2.2.2.2.2)))
          else
            k (.inl (x.1, x.2.1, x.2.2.1, (IntKind.wrap .i64 (x.2.2.2.1 + (1 : Int))), y3.2.1, y3.2.2.1, y3.2.2.2.1, y3.2.2.2.2.1, y3.2.2.2.2.2.1, y3.2.2.2.2.2.2.1, y3.2.2.2.2.2.2.2.1, y3.2.2.2.2.2.2.2.2)))
      else none
    else
      k (.inr (.inr (x.1, x.2.1, x.2.2.1, x.2.2.2.1, x.2.2.2.2.1, x.2.2.2.2.2.1, x.2.2.2.2.2.2.1, x.2.2.2.2.2.2.2.1, x.2.2.2.2.2.2.2.2.1, x.2.2.2.2.2.2.2.2.2.1, x.2.2.2.2.2.2.2.2.2.2.1, x.2.2.2.2.2.2.2.2.2.2.2)))

theorem slices_IndexFunc_Txn_ReadyDanger_1_bp0 (x : q15T) : Par (slices_IndexFunc_Txn_ReadyDanger_1_b0 x) := by
  unfold slices_IndexFunc_Txn_ReadyDanger_1_b0
  exact (par_bif (par_ite (c := 0 ≤ x.2.2.2.1 ∧ x.2.2.2.1 < (x.1.length : Int)) ((impl_ReadyDanger_1_p (rd (Ty.zero tTxn) x.1 x.2.2.2.1) x.2.2.2.2.1 x.2.2.2.2.2.1 x.2.2.2.2.2.2.1 x.2.2.2.2.2.2.2.1 x.2.2.2.2.2.2.2.2.1 x.2.2.2.2.2.2.2.2.2.1 x.2.2.2.2.2.2.2.2.2.2.1 x.2.2.2.2.2.2.2.2.2.2.2).bind fun y3 => (par_bif (par_ret _) (par_ret _))) par_none) (par_ret _))

def slices_IndexFunc_Txn_ReadyDanger_1_d (a0 : (List dTxn)) (a1 : Int) (a2 : Int) (a3 : Int) (a4 : Int) (a5 : (List dRange)) (a6 : (List dWrite)) (a7 : Bool) (a8 : ByteArray) (k : q42T → Option Res) : Option Res :=
  loopK slices_IndexFunc_Txn_ReadyDanger_1_b0 Fuel (a0, (0 : Int), (a0.length : Int), (0 : Int), a1, a2, a3, a4, a5, a6, a7, a8) (Sum.elim (fun z1 =>
    k (z1.2.1, z1.2.2.2.2.1, z1.2.2.2.2.2.1, z1.2.2.2.2.2.2.1, z1.2.2.2.2.2.2.2.1, z1.2.2.2.2.2.2.2.2.1, z1.2.2.2.2.2.2.2.2.2.1, z1.2.2.2.2.2.2.2.2.2.2.1, z1.2.2.2.2.2.2.2.2.2.2.2)) (fun z2 =>
    k ((-1 : Int), z2.2.2.2.2.1, z2.2.2.2.2.2.1, z2.2.2.2.2.2.2.1, z2.2.2.2.2.2.2.2.1, z2.2.2.2.2.2.2.2.2.1, z2.2.2.2.2.2.2.2.2.2.1, z2.2.2.2.2.2.2.2.2.2.2.1, z2.2.2.2.2.2.2.2.2.2.2.2)))

theorem slices_IndexFunc_Txn_ReadyDanger_1_h : ∃ g : (List dTxn) → Int → Int → Int → Int → (List dRange) → (List dWrite) → Bool → ByteArray → (q42T → Option Res) → Option Res, g = slices_IndexFunc_Txn_ReadyDanger_1_d := ⟨_, rfl⟩
def slices_IndexFunc_Txn_ReadyDanger_1_k : (List dTxn) → Int → Int → Int → Int → (List dRange) → (List dWrite) → Bool → ByteArray → (q42T → Option Res) → Option Res := Classical.choose slices_IndexFunc_Txn_ReadyDanger_1_h
theorem slices_IndexFunc_Txn_ReadyDanger_1_e : slices_IndexFunc_Txn_ReadyDanger_1_k = slices_IndexFunc_Txn_ReadyDanger_1_d := Classical.choose_spec slices_IndexFunc_Txn_ReadyDanger_1_h

theorem slices_IndexFunc_Txn_ReadyDanger_1_p (a0 : (List dTxn)) (a1 : Int) (a2 : Int) (a3 : Int) (a4 : Int) (a5 : (List dRange)) (a6 : (List dWrite)) (a7 : Bool) (a8 : ByteArray) : Par (slices_IndexFunc_Txn_ReadyDanger_1_k a0 a1 a2 a3 a4 a5 a6 a7 a8) := by
  rw [slices_IndexFunc_Txn_ReadyDanger_1_e]
  unfold slices_IndexFunc_Txn_ReadyDanger_1_d
  exact ((par_loop slices_IndexFunc_Txn_ReadyDanger_1_bp0 Fuel (a0, (0 : Int), (a0.length : Int), (0 : Int), a1, a2, a3, a4, a5, a6, a7, a8)).bind2 (fun z1 => (par_ret _)) (fun z2 => (par_ret _)))

def slices_ContainsFunc_Txn_ReadyDanger_1_d (a0 : (List dTxn)) (a1 : Int) (a2 : Int) (a3 : Int) (a4 : Int) (a5 : (List dRange)) (a6 : (List dWrite)) (a7 : Bool) (a8 : ByteArray) (k : q29T → Option Res) : Option Res :=
  slices_IndexFunc_Txn_ReadyDanger_1_k a0 a1 a2 a3 a4 a5 a6 a7 a8 (fun y1 =>
    k ((decide (y1.1 ≥ (0 : Int))), y1.2.1, y1.2.2.1, y1.2.2.2.1, y1.2.2.2.2.1, y1.2.2.2.2.2.1, y1.2.2.2.2.2.2.1, y1.2.2.2.2.2.2.2.1, y1.2.2.2.2.2.2.2.2))

theorem slices_ContainsFunc_Txn_ReadyDanger_1_h : ∃ g : (List dTxn) → Int → Int → Int → Int → (List dRange) → (List dWrite) → Bool → ByteArray → (q29T → Option Res) → Option Res, g = slices_ContainsFunc_Txn_ReadyDanger_1_d := ⟨_, rfl⟩
def slices_ContainsFunc_Txn_ReadyDanger_1_k : (List dTxn) → Int → Int → Int → Int → (List dRange) → (List dWrite) → Bool → ByteArray → (q29T → Option Res) → Option Res := Classical.choose slices_ContainsFunc_Txn_ReadyDanger_1_h
theorem slices_ContainsFunc_Txn_ReadyDanger_1_e : slices_ContainsFunc_Txn_ReadyDanger_1_k = slices_ContainsFunc_Txn_ReadyDanger_1_d := Classical.choose_spec slices_ContainsFunc_Txn_ReadyDanger_1_h

theorem slices_ContainsFunc_Txn_ReadyDanger_1_p (a0 : (List dTxn)) (a1 : Int) (a2 : Int) (a3 : Int) (a4 : Int) (a5 : (List dRange)) (a6 : (List dWrite)) (a7 : Bool) (a8 : ByteArray) : Par (slices_ContainsFunc_Txn_ReadyDanger_1_k a0 a1 a2 a3 a4 a5 a6 a7 a8) := by
  rw [slices_ContainsFunc_Txn_ReadyDanger_1_e]
  unfold slices_ContainsFunc_Txn_ReadyDanger_1_d
  exact ((slices_IndexFunc_Txn_ReadyDanger_1_p a0 a1 a2 a3 a4 a5 a6 a7 a8).bind fun y1 => (par_ret _))

def impl_some_ReadyDanger_1_d (a0 : (List dTxn)) (a1 : Int) (a2 : Int) (a3 : Int) (a4 : Int) (a5 : (List dRange)) (a6 : (List dWrite)) (a7 : Bool) (a8 : ByteArray) (k : q29T → Option Res) : Option Res :=
  slices_ContainsFunc_Txn_ReadyDanger_1_k a0 a1 a2 a3 a4 a5 a6 a7 a8 (fun y1 =>
    k (y1.1, y1.2.1, y1.2.2.1, y1.2.2.2.1, y1.2.2.2.2.1, y1.2.2.2.2.2.1, y1.2.2.2.2.2.2.1, y1.2.2.2.2.2.2.2.1, y1.2.2.2.2.2.2.2.2))

theorem impl_some_ReadyDanger_1_h : ∃ g : (List dTxn) → Int → Int → Int → Int → (List dRange) → (List dWrite) → Bool → ByteArray → (q29T → Option Res) → Option Res, g = impl_some_ReadyDanger_1_d := ⟨_, rfl⟩
def impl_some_ReadyDanger_1_k : (List dTxn) → Int → Int → Int → Int → (List dRange) → (List dWrite) → Bool → ByteArray → (q29T → Option Res) → Option Res := Classical.choose impl_some_ReadyDanger_1_h
theorem impl_some_ReadyDanger_1_e : impl_some_ReadyDanger_1_k = impl_some_ReadyDanger_1_d := Classical.choose_spec impl_some_ReadyDanger_1_h

theorem impl_some_ReadyDanger_1_p (a0 : (List dTxn)) (a1 : Int) (a2 : Int) (a3 : Int) (a4 : Int) (a5 : (List dRange)) (a6 : (List dWrite)) (a7 : Bool) (a8 : ByteArray) : Par (impl_some_ReadyDanger_1_k a0 a1 a2 a3 a4 a5 a6 a7 a8) := by
  rw [impl_some_ReadyDanger_1_e]
  unfold impl_some_ReadyDanger_1_d
  exact ((slices_ContainsFunc_Txn_ReadyDanger_1_p a0 a1 a2 a3 a4 a5 a6 a7 a8).bind fun y1 => (par_ret _))

def impl_ReadyDanger_2_1_d (a0 : dTxn) (a1 : Int) (a2 : Int) (a3 : Int) (a4 : Int) (a5 : (List dRange)) (a6 : (List dWrite)) (a7 : Bool) (a8 : ByteArray) (a9 : Int) (a10 : Int) (a11 : Int) (a12 : Int) (a13 : (List dRange)) (a14 : (List dWrite)) (a15 : Bool) (a16 : ByteArray) (k : q28T → Option Res) : Option Res :=
  impl_isReady_k a0 (fun y1 =>
    bif y1 then
      bif (a0.1 != a1) then
        impl_Ahead_k (a9, (a10, (a11, (a12, (a13, (a14, (a15, a16))))))) a0 (fun y2 =>
          k (y2, a1, a2, a3, a4, a5, a6, a7, a8, a9, a10, a11, a12, a13, a14, a15, a16))
      else
        k (false, a1, a2, a3, a4, a5, a6, a7, a8, a9, a10, a11, a12, a13, a14, a15, a16)
    else
      k (false, a1, a2, a3, a4, a5, a6, a7, a8, a9, a10, a11, a12, a13, a14, a15, a16))

theorem impl_ReadyDanger_2_1_h : ∃ g : dTxn → Int → Int → Int → Int → (List dRange) → (List dWrite) → Bool → ByteArray → Int → Int → Int → Int → (List dRange) → (List dWrite) → Bool → ByteArray → (q28T → Option Res) → Option Res, g = impl_ReadyDanger_2_1_d := ⟨_, rfl⟩
def impl_ReadyDanger_2_1_k : dTxn → Int → Int → Int → Int → (List dRange) → (List dWrite) → Bool → ByteArray → Int → Int → Int → Int → (List dRange) → (List dWrite) → Bool → ByteArray → (q28T → Option Res) → Option Res := Classical.choose impl_ReadyDanger_2_1_h
theorem impl_ReadyDanger_2_1_e : impl_ReadyDanger_2_1_k = impl_ReadyDanger_2_1_d := Classical.choose_spec impl_ReadyDanger_2_1_h

theorem impl_ReadyDanger_2_1_p (a0 : dTxn) (a1 : Int) (a2 : Int) (a3 : Int) (a4 : Int) (a5 : (List dRange)) (a6 : (List dWrite)) (a7 : Bool) (a8 : ByteArray) (a9 : Int) (a10 : Int) (a11 : Int) (a12 : Int) (a13 : (List dRange)) (a14 : (List dWrite)) (a15 : Bool) (a16 : ByteArray) : Par (impl_ReadyDanger_2_1_k a0 a1 a2 a3 a4 a5 a6 a7 a8 a9 a10 a11 a12 a13 a14 a15 a16) := by
  rw [impl_ReadyDanger_2_1_e]
  unfold impl_ReadyDanger_2_1_d
  exact ((impl_isReady_p a0).bind fun y1 => (par_bif (par_bif ((impl_Ahead_p (a9, (a10, (a11, (a12, (a13, (a14, (a15, a16))))))) a0).bind fun y2 => (par_ret _)) (par_ret _)) (par_ret _)))

def slices_IndexFunc_Txn_ReadyDanger_2_1_b0 (x : q14T) (k : q14T ⊕ (q14T ⊕ q14T) → Option Res) : Option Res :=
    bif (decide (x.2.2.2.1 < x.2.2.1)) then
      if 0 ≤ x.2.2.2.1 ∧ x.2.2.2.1 < (x.1.length : Int) then
        impl_ReadyDanger_2_1_k (rd (Ty.zero tTxn) x.1 x.2.2.2.1) x.2.2.2.2.1 x.2.2.2.2.2.1 x.2.2.2.2.2.2.1 x.2.2.2.2.2.2.2.1 x.2.2.2.2.2.2.2.2.1 x.2.2.2.2.2.2.2.2.2.1 x.2.2.2.2.2.2.2.2.2.2.1 x.2.2.2.2.2.2.2.2.2.2.2.1 x.2.2.2.2.2.2.2.2.2.2.2.2.1 x.2.2.2.2.2.2.2.2.2.2.2.2.2.1 x.2.2.2.2.2.2.2.2.2.2.2.2.2.2.1 x.2.2.2.2.2.2.2.2.2.2.2.2.2.2.2.1 x.2.2.2.2.2.2.2.2.2.2.2.2.2.2.2.2.1 x.2.2.2.2.2.2.2.2.2.2.2.2.2.2.2.2.2.1 x.2.2.2.2.2.2.2.2.2.2.2.2.2.2.2.2.2.2.1 x.2.2.2.2.2.2.2.2.2.2.2.2.2.2.2.2.2.2.2 (fun y3 =>
          bif y3.1 then
            k (.inr (.inl (x.1, x.2.2.2.1, x.2.2.1, x.2.2.2.1, y3.2.1, y3.2.2.1, y3.2.2.2.1, y3.2.2.2.2.1, y3.2.2.2.2.2.1, y3.2.2.2.2.2.2.1, y3.2.2.2.2.2.2.2.1, y3.2.2.2.2.2.2.2.2.1, y3.2.2.2.2.2.2.2.2.2.1, y3.2.2.2.2.2.2.2.2.2.2.1, y3.2.2.2.2.2.2.2.2.2.2.2.1, y3.2.2.2.2.2.2.2.2.2.2.2.2.1, y3.2.2.2.2.2.2.2.2.2.2.2.2.2.1, y3.2.2.2.2.2.2.2.2.2.2.2.2.2.2.1, y3.2.2.2.2.2.2.2.2.2.2.2.2.2.2.2.1, y3.2.2.2.2.2.2.2.2.2.2.2.2.2.2.2.2)))
          else
            k (.inl (x.1, x.2.1, x.2.2.1, (IntKind.wrap .i64 (x.2.2.2.1 + (1 : Int))), y3.2.1, y3.2.2.1, y3.2.2.2.1, y3.2.2.2.2.1, y3.2.2.2.2.2.1, y3.2.2.2.2.2.2.1, y3.2.2.2.2.2.2.2.1, y3.2.2.2.2.2.2.2.2.1, y3.2.2.2.2.2.2.2.2.2.1, y3.2.2.2.2.2.2.2.2.2.2.1, y3.2.2.2.2.2.2.2.2.2.2.2.1, y3.2.2.2.2.2.2.2.2.2.2.2.2.1, y3.2.2.2.2.2.2.2.2.2.2.2.2.2.1, y3.2.2.2.2.2.2.2.2.2.2.2.2.2.2.1, y3.2.2.2.2.2.2.2.2.2.2.2.2.2.2.2.1, y3.2.2.2.2.2.2.2.2.2.2.2.2.2.2.2.2)))
      else none
    else
      k (.inr (.inr (x.1, x.2.1, x.2.2.1, x.2.2.2.1, x.2.2.2.2.1, x.2.2.2.2.2.1, x.2.2.2.2.2.2.1, x.2.2.2.2.2.2.2.1, x.2.2.2.2.2.2.2.2.1, x.2.2.2.2.2.2.2.2.2.1, x.2.2.2.2.2.2.2.2.2.2.1, x.2.2.2.2.2.2.2.2.2.2.2.1, x.2.2.2.2.2.2.2.2.2.2.2.2.1, x.2.2.2.2.2.2.2.2.2.2.2.2.2.1, x.2.2.2.2.2.2.2.2.2.2.2.2.2.2.1, x.2.2.2.2.2.2.2.2.2.2.2.2.2.2.2.1, x.2.2.2.2.2.2.2.2.2.2.2.2.2.2.2.2.1, x.2.2.2.2.2.2.2.2.2.2.2.2.2.2.2.2.2.1, x.2.2.2.2.2.2.2.2.2.2.2.2.2.2.2.2.2.2.1, x.2.2.2.2.2.2.2.2.2.2.2.2.2.2.2.2.2.2.2)))

theorem slices_IndexFunc_Txn_ReadyDanger_2_1_bp0 (x : q14T) : Par (slices_IndexFunc_Txn_ReadyDanger_2_1_b0 x) := by
  unfold slices_IndexFunc_Txn_ReadyDanger_2_1_b0
  exact (par_bif (par_ite (c := 0 ≤ x.2.2.2.1 ∧ x.2.2.2.1 < (x.1.length : Int)) ((impl_ReadyDanger_2_1_p (rd (Ty.zero tTxn) x.1 x.2.2.2.1) x.2.2.2.2.1 x.2.2.2.2.2.1 x.2.2.2.2.2.2.1 x.2.2.2.2.2.2.2.1 x.2.2.2.2.2.2.2.2.1 x.2.2.2.2.2.2.2.2.2.1 x.2.2.2.2.2.2.2.2.2.2.1 x.2.2.2.2.2.2.2.2.2.2.2.1 x.2.2.2.2.2.2.2.2.2.2.2.2.1 x.2.2.2.2.2.2.2.2.2.2.2.2.2.1 x.2.2.2.2.2.2.2.2.2.2.2.2.2.2.1 x.2.2.2.2.2.2.2.2.2.2.2.2.2.2.2.1 x.2.2.2.2.2.2.2.2.2.2.2.2.2.2.2.2.1 x.2.2.2.2.2.2.2.2.2.2.2.2.2.2.2.2.2.1 x.2.2.2.2.2.2.2.2.2.2.2.2.2.2.2.2.2.2.1 x.2.2.2.2.2.2.2.2.2.2.2.2.2.2.2.2.2.2.2).bind fun y3 => (par_bif (par_ret _) (par_ret _))) par_none) (par_ret _))

def slices_IndexFunc_Txn_ReadyDanger_2_1_d (a0 : (List dTxn)) (a1 : Int) (a2 : Int) (a3 : Int) (a4 : Int) (a5 : (List dRange)) (a6 : (List dWrite)) (a7 : Bool) (a8 : ByteArray) (a9 : Int) (a10 : Int) (a11 : Int) (a12 : Int) (a13 : (List dRange)) (a14 : (List dWrite)) (a15 : Bool) (a16 : ByteArray) (k : q41T → Option Res) : Option Res :=
  loopK slices_IndexFunc_Txn_ReadyDanger_2_1_b0 Fuel (a0, (0 : Int), (a0.length : Int), (0 : Int), a1, a2, a3, a4, a5, a6, a7, a8, a9, a10, a11, a12, a13, a14, a15, a16) (Sum.elim (fun z1 =>
    k (z1.2.1, z1.2.2.2.2.1, z1.2.2.2.2.2.1, z1.2.2.2.2.2.2.1, z1.2.2.2.2.2.2.2.1, z1.2.2.2.2.2.2.2.2.1, z1.2.2.2.2.2.2.2.2.2.1, z1.2.2.2.2.2.2.2.2.2.2.1, z1.2.2.2.2.2.2.2.2.2.2.2.1, z1.2.2.2.2.2.2.2.2.2.2.2.2.1, z1.2.2.2.2.2.2.2.2.2.2.2.2.2.1, z1.2.2.2.2.2.2.2.2.2.2.2.2.2.2.1, z1.2.2.2.2.2.2.2.2.2.2.2.2.2.2.2.1, z1.2.2.2.2.2.2.2.2.2.2.2.2.2.2.2.2.1, z1.2.2.2.2.2.2.2.2.2.2.2.2.2.2.2.2.2.1, z1.2.2.2.2.2.2.2.2.2.2.2.2.2.2.2.2.2.2.1, z1.2.2.2.2.2.2.2.2.2.2.2.2.2.2.2.2.2.2.2)) (fun z2 =>
    k ((-1 : Int), z2.2.2.2.2.1, z2.2.2.2.2.2.1, z2.2.2.2.2.2.2.1, z2.2.2.2.2.2.2.2.1, z2.2.2.2.2.2.2.2.2.1, z2.2.2.2.2.2.2.2.2.2.1, z2.2.2.2.2.2.2.2.2.2.2.1, z2.2.2.2.2.2.2.2.2.2.2.2.1, z2.2.2.2.2.2.2.2.2.2.2.2.2.1, z2.2.2.2.2.2.2.2.2.2.2.2.2.2.1, z2.2.2.2.2.2.2.2.2.2.2.2.2.2.2.1, z2.2.2.2.2.2.2.2.2.2.2.2.2.2.2.2.1, z2.2.2.2.2.2.2.2.2.2.2.2.2.2.2.2.2.1, z2.2.2.2.2.2.2.2.2.2.2.2.2.2.2.2.2.2.1, z2.2.2.2.2.2.2.2.2.2.2.2.2.2.2.2.2.2.2.1, z2.2.2.2.2.2.2.2.2.2.2.2.2.2.2.2.2.2.2.2)))

theorem slices_IndexFunc_Txn_ReadyDanger_2_1_h : ∃ g : (List dTxn) → Int → Int → Int → Int → (List dRange) → (List dWrite) → Bool → ByteArray → Int → Int → Int → Int → (List dRange) → (List dWrite) → Bool → ByteArray → (q41T → Option Res) → Option Res, g = slices_IndexFunc_Txn_ReadyDanger_2_1_d := ⟨_, rfl⟩
def slices_IndexFunc_Txn_ReadyDanger_2_1_k : (List dTxn) → Int → Int → Int → Int → (List dRange) → (List dWrite) → Bool → ByteArray → Int → Int → Int → Int → (List dRange) → (List dWrite) → Bool → ByteArray → (q41T → Option Res) → Option Res := Classical.choose slices_IndexFunc_Txn_ReadyDanger_2_1_h
theorem slices_IndexFunc_Txn_ReadyDanger_2_1_e : slices_IndexFunc_Txn_ReadyDanger_2_1_k = slices_IndexFunc_Txn_ReadyDanger_2_1_d := Classical.choose_spec slices_IndexFunc_Txn_ReadyDanger_2_1_h

theorem slices_IndexFunc_Txn_ReadyDanger_2_1_p (a0 : (List dTxn)) (a1 : Int) (a2 : Int) (a3 : Int) (a4 : Int) (a5 : (List dRange)) (a6 : (List dWrite)) (a7 : Bool) (a8 : ByteArray) (a9 : Int) (a10 : Int) (a11 : Int) (a12 : Int) (a13 : (List dRange)) (a14 : (List dWrite)) (a15 : Bool) (a16 : ByteArray) : Par (slices_IndexFunc_Txn_ReadyDanger_2_1_k a0 a1 a2 a3 a4 a5 a6 a7 a8 a9 a10 a11 a12 a13 a14 a15 a16) := by
  rw [slices_IndexFunc_Txn_ReadyDanger_2_1_e]
  unfold slices_IndexFunc_Txn_ReadyDanger_2_1_d
  exact ((par_loop slices_IndexFunc_Txn_ReadyDanger_2_1_bp0 Fuel (a0, (0 : Int), (a0.length : Int), (0 : Int), a1, a2, a3, a4, a5, a6, a7, a8, a9, a10, a11, a12, a13, a14, a15, a16)).bind2 (fun z1 => (par_ret _)) (fun z2 => (par_ret _)))

def slices_ContainsFunc_Txn_ReadyDanger_2_1_d (a0 : (List dTxn)) (a1 : Int) (a2 : Int) (a3 : Int) (a4 : Int) (a5 : (List dRange)) (a6 : (List dWrite)) (a7 : Bool) (a8 : ByteArray) (a9 : Int) (a10 : Int) (a11 : Int) (a12 : Int) (a13 : (List dRange)) (a14 : (List dWrite)) (a15 : Bool) (a16 : ByteArray) (k : q28T → Option Res) : Option Res :=
  slices_IndexFunc_Txn_ReadyDanger_2_1_k a0 a1 a2 a3 a4 a5 a6 a7 a8 a9 a10 a11 a12 a13 a14 a15 a16 (fun y1 =>
    k ((decide (y1.1 ≥ (0 : Int))), y1.2.1, y1.2.2.1, y1.2.2.2.1, y1.2.2.2.2.1, y1.2.2.2.2.2.1, y1.2.2.2.2.2.2.1, y1.2.2.2.2.2.2.2.1, y1.2.2.2.2.2.2.2.2.1, y1.2.2.2.2.2.2.2.2.2.1, y1.2.2.2.2.2.2.2.2.2.2.1, y1.2.2.2.2.2.2.2.2.2.2.2.1, y1.2.2.2.2.2.2.2.2.2.2.2.2.1, y1.2.2.2.2.2.2.2.2.2.2.2.2.2.1, y1.2.2.2.2.2.2.2.2.2.2.2.2.2.2.1, y1.2.2.2.2.2.2.2.2.2.2.2.2.2.2.2.1, y1.2.2.2.2.2.2.2.2.2.2.2.2.2.2.2.2))

theorem slices_ContainsFunc_Txn_ReadyDanger_2_1_h : ∃ g : (List dTxn) → Int → Int → Int → Int → (List dRange) → (List dWrite) → Bool → ByteArray → Int → Int → Int → Int → (List dRange) → (List dWrite) → Bool → ByteArray → (q28T → Option Res) → Option Res, g = slices_ContainsFunc_Txn_ReadyDanger_2_1_d := ⟨_, rfl⟩
def slices_ContainsFunc_Txn_ReadyDanger_2_1_k : (List dTxn) → Int → Int → Int → Int → (List dRange) → (List dWrite) → Bool → ByteArray → Int → Int → Int → Int → (List dRange) → (List dWrite) → Bool → ByteArray → (q28T → Option Res) → Option Res := Classical.choose slices_ContainsFunc_Txn_ReadyDanger_2_1_h
theorem slices_ContainsFunc_Txn_ReadyDanger_2_1_e : slices_ContainsFunc_Txn_ReadyDanger_2_1_k = slices_ContainsFunc_Txn_ReadyDanger_2_1_d := Classical.choose_spec slices_ContainsFunc_Txn_ReadyDanger_2_1_h

theorem slices_ContainsFunc_Txn_ReadyDanger_2_1_p (a0 : (List dTxn)) (a1 : Int) (a2 : Int) (a3 : Int) (a4 : Int) (a5 : (List dRange)) (a6 : (List dWrite)) (a7 : Bool) (a8 : ByteArray) (a9 : Int) (a10 : Int) (a11 : Int) (a12 : Int) (a13 : (List dRange)) (a14 : (List dWrite)) (a15 : Bool) (a16 : ByteArray) : Par (slices_ContainsFunc_Txn_ReadyDanger_2_1_k a0 a1 a2 a3 a4 a5 a6 a7 a8 a9 a10 a11 a12 a13 a14 a15 a16) := by
  rw [slices_ContainsFunc_Txn_ReadyDanger_2_1_e]
  unfold slices_ContainsFunc_Txn_ReadyDanger_2_1_d
  exact ((slices_IndexFunc_Txn_ReadyDanger_2_1_p a0 a1 a2 a3 a4 a5 a6 a7 a8 a9 a10 a11 a12 a13 a14 a15 a16).bind fun y1 => (par_ret _))

def impl_some_ReadyDanger_2_1_d (a0 : (List dTxn)) (a1 : Int) (a2 : Int) (a3 : Int) (a4 : Int) (a5 : (List dRange)) (a6 : (List dWrite)) (a7 : Bool) (a8 : ByteArray) (a9 : Int) (a10 : Int) (a11 : Int) (a12 : Int) (a13 : (List dRange)) (a14 : (List dWrite)) (a15 : Bool) (a16 : ByteArray) (k : q28T → Option Res) : Option Res :=
  slices_ContainsFunc_Txn_ReadyDanger_2_1_k a0 a1 a2 a3 a4 a5 a6 a7 a8 a9 a10 a11 a12 a13 a14 a15 a16 (fun y1 =>
    k (y1.1, y1.2.1, y1.2.2.1, y1.2.2.2.1, y1.2.2.2.2.1, y1.2.2.2.2.2.1, y1.2.2.2.2.2.2.1, y1.2.2.2.2.2.2.2.1, y1.2.2.2.2.2.2.2.2.1, y1.2.2.2.2.2.2.2.2.2.1, y1.2.2.2.2.2.2.2.2.2.2.1, y1.2.2.2.2.2.2.2.2.2.2.2.1, y1.2.2.2.2.2.2.2.2.2.2.2.2.1, y1.2.2.2.2.2.2.2.2.2.2.2.2.2.1, y1.2.2.2.2.2.2.2.2.2.2.2.2.2.2.1, y1.2.2.2.2.2.2.2.2.2.2.2.2.2.2.2.1, y1.2.2.2.2.2.2.2.2.2.2.2.2.2.2.2.2))

theorem impl_some_ReadyDanger_2_1_h : ∃ g : (List dTxn) → Int → Int → Int → Int → (List dRange) → (List dWrite) → Bool → ByteArray → Int → Int → Int → Int → (List dRange) → (List dWrite) → Bool → ByteArray → (q28T → Option Res) → Option Res, g = impl_some_ReadyDanger_2_1_d := ⟨_, rfl⟩
def impl_some_ReadyDanger_2_1_k : (List dTxn) → Int → Int → Int → Int → (List dRange) → (List dWrite) → Bool → ByteArray → Int → Int → Int → Int → (List dRange) → (List dWrite) → Bool → ByteArray → (q28T → Option Res) → Option Res := Classical.choose impl_some_ReadyDanger_2_1_h
theorem impl_some_ReadyDanger_2_1_e : impl_some_ReadyDanger_2_1_k = impl_some_ReadyDanger_2_1_d := Classical.choose_spec impl_some_ReadyDanger_2_1_h

theorem impl_some_ReadyDanger_2_1_p (a0 : (List dTxn)) (a1 : Int) (a2 : Int) (a3 : Int) (a4 : Int) (a5 : (List dRange)) (a6 : (List dWrite)) (a7 : Bool) (a8 : ByteArray) (a9 : Int) (a10 : Int) (a11 : Int) (a12 : Int) (a13 : (List dRange)) (a14 : (List dWrite)) (a15 : Bool) (a16 : ByteArray) : Par (impl_some_ReadyDanger_2_1_k a0 a1 a2 a3 a4 a5 a6 a7 a8 a9 a10 a11 a12 a13 a14 a15 a16) := by
  rw [impl_some_ReadyDanger_2_1_e]
  unfold impl_some_ReadyDanger_2_1_d
  exact ((slices_ContainsFunc_Txn_ReadyDanger_2_1_p a0 a1 a2 a3 a4 a5 a6 a7 a8 a9 a10 a11 a12 a13 a14 a15 a16).bind fun y1 => (par_ret _))

def impl_ReadyDanger_2_d (a0 : dTxn) (a1 : (List dTxn)) (a2 : Int) (a3 : Int) (a4 : Int) (a5 : Int) (a6 : (List dRange)) (a7 : (List dWrite)) (a8 : Bool) (a9 : ByteArray) (k : q24T → Option Res) : Option Res :=
  impl_ReadyDanger_1_k a0 a2 a3 a4 a5 a6 a7 a8 a9 (fun y1 =>
    bif y1.1 then
      impl_some_ReadyDanger_2_1_k a1 y1.2.1 y1.2.2.1 y1.2.2.2.1 y1.2.2.2.2.1 y1.2.2.2.2.2.1 y1.2.2.2.2.2.2.1 y1.2.2.2.2.2.2.2.1 y1.2.2.2.2.2.2.2.2 a0.1 a0.2.1 a0.2.2.1 a0.2.2.2.1 a0.2.2.2.2.1 a0.2.2.2.2.2.1 a0.2.2.2.2.2.2.1 a0.2.2.2.2.2.2.2 (fun y2 =>
        k (y2.1, a1, y2.2.1, y2.2.2.1, y2.2.2.2.1, y2.2.2.2.2.1, y2.2.2.2.2.2.1, y2.2.2.2.2.2.2.1, y2.2.2.2.2.2.2.2.1, y2.2.2.2.2.2.2.2.2.1))
    else
      k (false, a1, y1.2.1, y1.2.2.1, y1.2.2.2.1, y1.2.2.2.2.1, y1.2.2.2.2.2.1, y1.2.2.2.2.2.2.1, y1.2.2.2.2.2.2.2.1, y1.2.2.2.2.2.2.2.2))

theorem impl_ReadyDanger_2_h : ∃ g : dTxn → (List dTxn) → Int → Int → Int → Int → (List dRange) → (List dWrite) → Bool → ByteArray → (q24T → Option Res) → Option Res, g = impl_ReadyDanger_2_d := ⟨_, rfl⟩
def impl_ReadyDanger_2_k : dTxn → (List dTxn) → Int → Int → Int → Int → (List dRange) → (List dWrite) → Bool → ByteArray → (q24T → Option Res) → Option Res := Classical.choose impl_ReadyDanger_2_h
theorem impl_ReadyDanger_2_e : impl_ReadyDanger_2_k = impl_ReadyDanger_2_d := Classical.choose_spec impl_ReadyDanger_2_h

theorem impl_ReadyDanger_2_p (a0 : dTxn) (a1 : (List dTxn)) (a2 : Int) (a3 : Int) (a4 : Int) (a5 : Int) (a6 : (List dRange)) (a7 : (List dWrite)) (a8 : Bool) (a9 : ByteArray) : Par (impl_ReadyDanger_2_k a0 a1 a2 a3 a4 a5 a6 a7 a8 a9) := by
  rw [impl_ReadyDanger_2_e]
  unfold impl_ReadyDanger_2_d
  exact ((impl_ReadyDanger_1_p a0 a2 a3 a4 a5 a6 a7 a8 a9).bind fun y1 => (par_bif ((impl_some_ReadyDanger_2_1_p a1 y1.2.1 y1.2.2.1 y1.2.2.2.1 y1.2.2.2.2.1 y1.2.2.2.2.2.1 y1.2.2.2.2.2.2.1 y1.2.2.2.2.2.2.2.1 y1.2.2.2.2.2.2.2.2 a0.1 a0.2.1 a0.2.2.1 a0.2.2.2.1 a0.2.2.2.2.1 a0.2.2.2.2.2.1 a0.2.2.2.2.2.2.1 a0.2.2.2.2.2.2.2).bind fun y2 => (par_ret _)) (par_ret _)))

def slices_IndexFunc_Txn_ReadyDanger_2_b0 (x : q12T) (k : q12T ⊕ (q12T ⊕ q12T) → Option Res) : Option Res :=
    bif (decide (x.2.2.2.1 < x.2.2.1)) then
      if 0 ≤ x.2.2.2.1 ∧ x.2.2.2.1 < (x.1.length : Int) then
        impl_ReadyDanger_2_k (rd (Ty.zero tTxn) x.1 x.2.2.2.1) x.2.2.2.2.1 x.2.2.2.2.2.1 x.2.2.2.2.2.2.1 x.2.2.2.2.2.2.2.1 x.2.2.2.2.2.2.2.2.1 x.2.2.2.2.2.2.2.2.2.1 x.2.2.2.2.2.2.2.2.2.2.1 x.2.2.2.2.2.2.2.2.2.2.2.1 x.2.2.2.2.2.2.2.2.2.2.2.2 (fun y3 =>
          bif y3.1 then
            k (.inr (.inl (x.1, x.2.2.2.1, x.2.2.1, x.2.2.2.1, y3.2.1, y3.2.2.1, y3.2.2.2.1, y3.2.2.2.2.1, y3.2.2.2.2.2.1, y3.2.2.2.2.2.2.1, y3.2.2.2.2.2.2.2.1, y3.2.2.2.2.2.2.2.2.1, y3.2.2.2.2.2.2.2.2.2)))
          else
            k (.inl (x.1, x.2.1, x.2.2.1, (IntKind.wrap .i64 (x.2.2.2.1 + (1 : Int))), y3.2.1, y3.2.2.1, y3.2.2.2.1, y3.2.2.2.2.1, y3.2.2.2.2.2.1, y3.2.2.2.2.2.2.1, y3.2.2.2.2.2.2.2.1, y3.2.2.2.2.2.2.2.2.1, y3.2.2.2.2.2.2.2.2.2)))
      else none
    else
      k (.inr (.inr (x.1, x.2.1, x.2.2.1, x.2.2.2.1, x.2.2.2.2.1, x.2.2.2.2.2.1, x.2.2.2.2.2.2.1, x.2.2.2.2.2.2.2.1, x.2.2.2.2.2.2.2.2.1, x.2.2.2.2.2.2.2.2.2.1, x.2.2.2.2.2.2.2.2.2.2.1, x.2.2.2.2.2.2.2.2.2.2.2.1, x.2.2.2.2.2.2.2.2.2.2.2.2)))

theorem slices_IndexFunc_Txn_ReadyDanger_2_bp0 (x : q12T) : Par (slices_IndexFunc_Txn_ReadyDanger_2_b0 x) := by
  unfold slices_IndexFunc_Txn_ReadyDanger_2_b0
  exact (par_bif (par_ite (c := 0 ≤ x.2.2.2.1 ∧ x.2.2.2.1 < (x.1.length : Int)) ((impl_ReadyDanger_2_p (rd (Ty.zero tTxn) x.1 x.2.2.2.1) x.2.2.2.2.1 x.2.2.2.2.2.1 x.2.2.2.2.2.2.1 x.2.2.2.2.2.2.2.1 x.2.2.2.2.2.2.2.2.1 x.2.2.2.2.2.2.2.2.2.1 x.2.2.2.2.2.2.2.2.2.2.1 x.2.2.2.2.2.2.2.2.2.2.2.1 x.2.2.2.2.2.2.2.2.2.2.2.2).bind fun y3 => (par_bif (par_ret _) (par_ret _))) par_none) (par_ret _))

def slices_IndexFunc_Txn_ReadyDanger_2_d (a0 : (List dTxn)) (a1 : (List dTxn)) (a2 : Int) (a3 : Int) (a4 : Int) (a5 : Int) (a6 : (List dRange)) (a7 : (List dWrite)) (a8 : Bool) (a9 : ByteArray) (k : q36T → Option Res) : Option Res :=
  loopK slices_IndexFunc_Txn_ReadyDanger_2_b0 Fuel (a0, (0 : Int), (a0.length : Int), (0 : Int), a1, a2, a3, a4, a5, a6, a7, a8, a9) (Sum.elim (fun z1 =>
    k (z1.2.1, z1.2.2.2.2.1, z1.2.2.2.2.2.1, z1.2.2.2.2.2.2.1, z1.2.2.2.2.2.2.2.1, z1.2.2.2.2.2.2.2.2.1, z1.2.2.2.2.2.2.2.2.2.1, z1.2.2.2.2.2.2.2.2.2.2.1, z1.2.2.2.2.2.2.2.2.2.2.2.1, z1.2.2.2.2.2.2.2.2.2.2.2.2)) (fun z2 =>
    k ((-1 : Int), z2.2.2.2.2.1, z2.2.2.2.2.2.1, z2.2.2.2.2.2.2.1, z2.2.2.2.2.2.2.2.1, z2.2.2.2.2.2.2.2.2.1, z2.2.2.2.2.2.2.2.2.2.1, z2.2.2.2.2.2.2.2.2.2.2.1, z2.2.2.2.2.2.2.2.2.2.2.2.1, z2.2.2.2.2.2.2.2.2.2.2.2.2)))

theorem slices_IndexFunc_Txn_ReadyDanger_2_h : ∃ g : (List dTxn) → (List dTxn) → Int → Int → Int → Int → (List dRange) → (List dWrite) → Bool → ByteArray → (q36T → Option Res) → Option Res, g = slices_IndexFunc_Txn_ReadyDanger_2_d := ⟨_, rfl⟩
def slices_IndexFunc_Txn_ReadyDanger_2_k : (List dTxn) → (List dTxn) → Int → Int → Int → Int → (List dRange) → (List dWrite) → Bool → ByteArray → (q36T → Option Res) → Option Res := Classical.choose slices_IndexFunc_Txn_ReadyDanger_2_h
theorem slices_IndexFunc_Txn_ReadyDanger_2_e : slices_IndexFunc_Txn_ReadyDanger_2_k = slices_IndexFunc_Txn_ReadyDanger_2_d := Classical.choose_spec slices_IndexFunc_Txn_ReadyDanger_2_h

theorem slices_IndexFunc_Txn_ReadyDanger_2_p (a0 : (List dTxn)) (a1 : (List dTxn)) (a2 : Int) (a3 : Int) (a4 : Int) (a5 : Int) (a6 : (List dRange)) (a7 : (List dWrite)) (a8 : Bool) (a9 : ByteArray) : Par (slices_IndexFunc_Txn_ReadyDanger_2_k a0 a1 a2 a3 a4 a5 a6 a7 a8 a9) := by
  rw [slices_IndexFunc_Txn_ReadyDanger_2_e]
  unfold slices_IndexFunc_Txn_ReadyDanger_2_d
  exact ((par_loop slices_IndexFunc_Txn_ReadyDanger_2_bp0 Fuel (a0, (0 : Int), (a0.length : Int), (0 : Int), a1, a2, a3, a4, a5, a6, a7, a8, a9)).bind2 (fun z1 => (par_ret _)) (fun z2 => (par_ret _)))

def slices_ContainsFunc_Txn_ReadyDanger_2_d (a0 : (List dTxn)) (a1 : (List dTxn)) (a2 : Int) (a3 : Int) (a4 : Int) (a5 : Int) (a6 : (List dRange)) (a7 : (List dWrite)) (a8 : Bool) (a9 : ByteArray) (k : q24T → Option Res) : Option Res :=
  slices_IndexFunc_Txn_ReadyDanger_2_k a0 a1 a2 a3 a4 a5 a6 a7 a8 a9 (fun y1 =>
    k ((decide (y1.1 ≥ (0 : Int))), y1.2.1, y1.2.2.1, y1.2.2.2.1, y1.2.2.2.2.1, y1.2.2.2.2.2.1, y1.2.2.2.2.2.2.1, y1.2.2.2.2.2.2.2.1, y1.2.2.2.2.2.2.2.2.1, y1.2.2.2.2.2.2.2.2.2))

theorem slices_ContainsFunc_Txn_ReadyDanger_2_h : ∃ g : (List dTxn) → (List dTxn) → Int → Int → Int → Int → (List dRange) → (List dWrite) → Bool → ByteArray → (q24T → Option Res) → Option Res, g = slices_ContainsFunc_Txn_ReadyDanger_2_d := ⟨_, rfl⟩
def slices_ContainsFunc_Txn_ReadyDanger_2_k : (List dTxn) → (List dTxn) → Int → Int → Int → Int → (List dRange) → (List dWrite) → Bool → ByteArray → (q24T → Option Res) → Option Res := Classical.choose slices_ContainsFunc_Txn_ReadyDanger_2_h
theorem slices_ContainsFunc_Txn_ReadyDanger_2_e : slices_ContainsFunc_Txn_ReadyDanger_2_k = slices_ContainsFunc_Txn_ReadyDanger_2_d := Classical.choose_spec slices_ContainsFunc_Txn_ReadyDanger_2_h

theorem slices_ContainsFunc_Txn_ReadyDanger_2_p (a0 : (List dTxn)) (a1 : (List dTxn)) (a2 : Int) (a3 : Int) (a4 : Int) (a5 : Int) (a6 : (List dRange)) (a7 : (List dWrite)) (a8 : Bool) (a9 : ByteArray) : Par (slices_ContainsFunc_Txn_ReadyDanger_2_k a0 a1 a2 a3 a4 a5 a6 a7 a8 a9) := by
  rw [slices_ContainsFunc_Txn_ReadyDanger_2_e]
  unfold slices_ContainsFunc_Txn_ReadyDanger_2_d
  exact ((slices_IndexFunc_Txn_ReadyDanger_2_p a0 a1 a2 a3 a4 a5 a6 a7 a8 a9).bind fun y1 => (par_ret _))

def impl_some_ReadyDanger_2_d (a0 : (List dTxn)) (a1 : (List dTxn)) (a2 : Int) (a3 : Int) (a4 : Int) (a5 : Int) (a6 : (List dRange)) (a7 : (List dWrite)) (a8 : Bool) (a9 : ByteArray) (k : q24T → Option Res) : Option Res :=
  slices_ContainsFunc_Txn_ReadyDanger_2_k a0 a1 a2 a3 a4 a5 a6 a7 a8 a9 (fun y1 =>
    k (y1.1, y1.2.1, y1.2.2.1, y1.2.2.2.1, y1.2.2.2.2.1, y1.2.2.2.2.2.1, y1.2.2.2.2.2.2.1, y1.2.2.2.2.2.2.2.1, y1.2.2.2.2.2.2.2.2.1, y1.2.2.2.2.2.2.2.2.2))

theorem impl_some_ReadyDanger_2_h : ∃ g : (List dTxn) → (List dTxn) → Int → Int → Int → Int → (List dRange) → (List dWrite) → Bool → ByteArray → (q24T → Option Res) → Option Res, g = impl_some_ReadyDanger_2_d := ⟨_, rfl⟩
def impl_some_ReadyDanger_2_k : (List dTxn) → (List dTxn) → Int → Int → Int → Int → (List dRange) → (List dWrite) → Bool → ByteArray → (q24T → Option Res) → Option Res := Classical.choose impl_some_ReadyDanger_2_h
theorem impl_some_ReadyDanger_2_e : impl_some_ReadyDanger_2_k = impl_some_ReadyDanger_2_d := Classical.choose_spec impl_some_ReadyDanger_2_h

theorem impl_some_ReadyDanger_2_p (a0 : (List dTxn)) (a1 : (List dTxn)) (a2 : Int) (a3 : Int) (a4 : Int) (a5 : Int) (a6 : (List dRange)) (a7 : (List dWrite)) (a8 : Bool) (a9 : ByteArray) : Par (impl_some_ReadyDanger_2_k a0 a1 a2 a3 a4 a5 a6 a7 a8 a9) := by
  rw [impl_some_ReadyDanger_2_e]
  unfold impl_some_ReadyDanger_2_d
  exact ((slices_ContainsFunc_Txn_ReadyDanger_2_p a0 a1 a2 a3 a4 a5 a6 a7 a8 a9).bind fun y1 => (par_ret _))

def impl_ReadyDanger_d (a0 : dTxn) (a1 : (List dTxn)) (k : Bool → Option Res) : Option Res :=
  impl_Danger_k a0 a1 (fun y1 =>
    bif y1 then
      k true
    else
      impl_InOf_k a0 a1 (fun y2 =>
        bif y2 then
          impl_some_ReadyDanger_1_k a1 a0.1 a0.2.1 a0.2.2.1 a0.2.2.2.1 a0.2.2.2.2.1 a0.2.2.2.2.2.1 a0.2.2.2.2.2.2.1 a0.2.2.2.2.2.2.2 (fun y3 =>
            bif y3.1 then
              k true
            else
              impl_some_ReadyDanger_2_k a1 a1 y3.2.1 y3.2.2.1 y3.2.2.2.1 y3.2.2.2.2.1 y3.2.2.2.2.2.1 y3.2.2.2.2.2.2.1 y3.2.2.2.2.2.2.2.1 y3.2.2.2.2.2.2.2.2 (fun y4 =>
                k y4.1))
        else
          impl_some_ReadyDanger_2_k a1 a1 a0.1 a0.2.1 a0.2.2.1 a0.2.2.2.1 a0.2.2.2.2.1 a0.2.2.2.2.2.1 a0.2.2.2.2.2.2.1 a0.2.2.2.2.2.2.2 (fun y5 =>
            k y5.1)))

theorem impl_ReadyDanger_h : ∃ g : dTxn → (List dTxn) → (Bool → Option Res) → Option Res, g = impl_ReadyDanger_d := ⟨_, rfl⟩
def impl_ReadyDanger_k : dTxn → (List dTxn) → (Bool → Option Res) → Option Res := Classical.choose impl_ReadyDanger_h
theorem impl_ReadyDanger_e : impl_ReadyDanger_k = impl_ReadyDanger_d := Classical.choose_spec impl_ReadyDanger_h

theorem impl_ReadyDanger_p (a0 : dTxn) (a1 : (List dTxn)) : Par (impl_ReadyDanger_k a0 a1) := by
  rw [impl_ReadyDanger_e]
  unfold impl_ReadyDanger_d
  exact ((impl_Danger_p a0 a1).bind fun y1 => (par_bif (par_ret _) ((impl_InOf_p a0 a1).bind fun y2 => (par_bif ((impl_some_ReadyDanger_1_p a1 a0.1 a0.2.1 a0.2.2.1 a0.2.2.2.1 a0.2.2.2.2.1 a0.2.2.2.2.2.1 a0.2.2.2.2.2.2.1 a0.2.2.2.2.2.2.2).bind fun y3 => (par_bif (par_ret _) ((impl_some_ReadyDanger_2_p a1 a1 y3.2.1 y3.2.2.1 y3.2.2.2.1 y3.2.2.2.2.1 y3.2.2.2.2.2.1 y3.2.2.2.2.2.2.1 y3.2.2.2.2.2.2.2.1 y3.2.2.2.2.2.2.2.2).bind fun y4 => (par_ret _)))) ((impl_some_ReadyDanger_2_p a1 a1 a0.1 a0.2.1 a0.2.2.1 a0.2.2.2.1 a0.2.2.2.2.1 a0.2.2.2.2.2.1 a0.2.2.2.2.2.2.1 a0.2.2.2.2.2.2.2).bind fun y5 => (par_ret _))))))

def spec_ReadyDanger_b2 (x : q7T) (k : q7T ⊕ (q7T ⊕ q7T) → Option Res) : Option Res :=
    bif (decide (x.2.2.2.2.1 < (x.1.length : Int))) then
      if 0 ≤ x.2.2.2.2.1 ∧ x.2.2.2.2.1 < (x.1.length : Int) then
        bif ((rd (Ty.zero tTxn) x.1 x.2.2.2.2.1).2.1 == (2 : Int)) then
          if 0 ≤ x.2.2.2.2.1 ∧ x.2.2.2.2.1 < (x.1.length : Int) then
            bif ((rd (Ty.zero tTxn) x.1 x.2.2.2.2.1).1 != x.2.2.2.2.2.1) then
              if 0 ≤ x.2.2.2.2.1 ∧ x.2.2.2.2.1 < (x.1.length : Int) then
                spec_Ahead_k x.2.2.2.2.2.2.2.2.2.2.2.2.2 (rd (Ty.zero tTxn) x.1 x.2.2.2.2.1) (fun y8 =>
                  bif y8 then
                    k (.inr (.inl (x.1, true, x.2.2.1, x.2.2.2.1, x.2.2.2.2.1, x.2.2.2.2.2.1, x.2.2.2.2.2.2.1, x.2.2.2.2.2.2.2.1, x.2.2.2.2.2.2.2.2.1, x.2.2.2.2.2.2.2.2.2.1, x.2.2.2.2.2.2.2.2.2.2.1, x.2.2.2.2.2.2.2.2.2.2.2.1, x.2.2.2.2.2.2.2.2.2.2.2.2.1, x.2.2.2.2.2.2.2.2.2.2.2.2.2.1, x.2.2.2.2.2.2.2.2.2.2.2.2.2.2.1, x.2.2.2.2.2.2.2.2.2.2.2.2.2.2.2.1, x.2.2.2.2.2.2.2.2.2.2.2.2.2.2.2.2.1, x.2.2.2.2.2.2.2.2.2.2.2.2.2.2.2.2.2.1, x.2.2.2.2.2.2.2.2.2.2.2.2.2.2.2.2.2.2.1, x.2.2.2.2.2.2.2.2.2.2.2.2.2.2.2.2.2.2.2.1, x.2.2.2.2.2.2.2.2.2.2.2.2.2.2.2.2.2.2.2.2)))
                  else
                    k (.inl (x.1, x.2.1, x.2.2.1, x.2.2.2.1, (IntKind.wrap .i64 (x.2.2.2.2.1 + (1 : Int))), x.2.2.2.2.2.1, x.2.2.2.2.2.2.1, x.2.2.2.2.2.2.2.1, x.2.2.2.2.2.2.2.2.1, x.2.2.2.2.2.2.2.2.2.1, x.2.2.2.2.2.2.2.2.2.2.1, x.2.2.2.2.2.2.2.2.2.2.2.1, x.2.2.2.2.2.2.2.2.2.2.2.2.1, x.2.2.2.2.2.2.2.2.2.2.2.2.2.1, x.2.2.2.2.2.2.2.2.2.2.2.2.2.2.1, x.2.2.2.2.2.2.2.2.2.2.2.2.2.2.2.1, x.2.2.2.2.2.2.2.2.2.2.2.2.2.2.2.2.1, x.2.2.2.2.2.2.2.2.2.2.2.2.2.2.2.2.2.1, x.2.2.2.2.2.2.2.2.2.2.2.2.2.2.2.2.2.2.1, x.2.2.2.2.2.2.2.2.2.2.2.2.2.2.2.2.2.2.2.1, x.2.2.2.2.2.2.2.2.2.2.2.2.2.2.2.2.2.2.2.2)))
              else none
            else
              k (.inl (x.1, x.2.1, x.2.2.1, x.2.2.2.1, (IntKind.wrap .i64 (x.2.2.2.2.1 + (1 : Int))), x.2.2.2.2.2.1, x.2.2.2.2.2.2.1, x.2.2.2.2.2.2.2.1, x.2.2.2.2.2.2.2.2.1, x.2.2.2.2.2.2.2.2.2.1, x.2.2.2.2.2.2.2.2.2.2.1, x.2.2.2.2.2.2.2.2.2.2.2.1, x.2.2.2.2.2.2.2.2.2.2.2.2.1, x.2.2.2.2.2.2.2.2.2.2.2.2.2.1, x.2.2.2.2.2.2.2.2.2.2.2.2.2.2.1, x.2.2.2.2.2.2.2.2.2.2.2.2.2.2.2.1, x.2.2.2.2.2.2.2.2.2.2.2.2.2.2.2.2.1, x.2.2.2.2.2.2.2.2.2.2.2.2.2.2.2.2.2.1, x.2.2.2.2.2.2.2.2.2.2.2.2.2.2.2.2.2.2.1, x.2.2.2.2.2.2.2.2.2.2.2.2.2.2.2.2.2.2.2.1, x.2.2.2.2.2.2.2.2.2.2.2.2.2.2.2.2.2.2.2.2))
          else none
        else
          k (.inl (x.1, x.2.1, x.2.2.1, x.2.2.2.1, (IntKind.wrap .i64 (x.2.2.2.2.1 + (1 : Int))), x.2.2.2.2.2.1, x.2.2.2.2.2.2.1, x.2.2.2.2.2.2.2.1, x.2.2.2.2.2.2.2.2.1, x.2.2.2.2.2.2.2.2.2.1, x.2.2.2.2.2.2.2.2.2.2.1, x.2.2.2.2.2.2.2.2.2.2.2.1, x.2.2.2.2.2.2.2.2.2.2.2.2.1, x.2.2.2.2.2.2.2.2.2.2.2.2.2.1, x.2.2.2.2.2.2.2.2.2.2.2.2.2.2.1, x.2.2.2.2.2.2.2.2.2.2.2.2.2.2.2.1, x.2.2.2.2.2.2.2.2.2.2.2.2.2.2.2.2.1, x.2.2.2.2.2.2.2.2.2.2.2.2.2.2.2.2.2.1, x.2.2.2.2.2.2.2.2.2.2.2.2.2.2.2.2.2.2.1, x.2.2.2.2.2.2.2.2.2.2.2.2.2.2.2.2.2.2.2.1, x.2.2.2.2.2.2.2.2.2.2.2.2.2.2.2.2.2.2.2.2))
      else none
    else
      k (.inr (.inr (x.1, x.2.1, x.2.2.1, x.2.2.2.1, x.2.2.2.2.1, x.2.2.2.2.2.1, x.2.2.2.2.2.2.1, x.2.2.2.2.2.2.2.1, x.2.2.2.2.2.2.2.2.1, x.2.2.2.2.2.2.2.2.2.1, x.2.2.2.2.2.2.2.2.2.2.1, x.2.2.2.2.2.2.2.2.2.2.2.1, x.2.2.2.2.2.2.2.2.2.2.2.2.1, x.2.2.2.2.2.2.2.2.2.2.2.2.2.1, x.2.2.2.2.2.2.2.2.2.2.2.2.2.2.1, x.2.2.2.2.2.2.2.2.2.2.2.2.2.2.2.1, x.2.2.2.2.2.2.2.2.2.2.2.2.2.2.2.2.1, x.2.2.2.2.2.2.2.2.2.2.2.2.2.2.2.2.2.1, x.2.2.2.2.2.2.2.2.2.2.2.2.2.2.2.2.2.2.1, x.2.2.2.2.2.2.2.2.2.2.2.2.2.2.2.2.2.2.2.1, x.2.2.2.2.2.2.2.2.2.2.2.2.2.2.2.2.2.2.2.2)))

theorem spec_ReadyDanger_bp2 (x : q7T) : Par (spec_ReadyDanger_b2 x) := by
  unfold spec_ReadyDanger_b2
  exact (par_bif (par_ite (c := 0 ≤ x.2.2.2.2.1 ∧ x.2.2.2.2.1 < (x.1.length : Int)) (par_bif (par_ite (c := 0 ≤ x.2.2.2.2.1 ∧ x.2.2.2.2.1 < (x.1.length : Int)) (par_bif (par_ite (c := 0 ≤ x.2.2.2.2.1 ∧ x.2.2.2.2.1 < (x.1.length : Int)) ((spec_Ahead_p x.2.2.2.2.2.2.2.2.2.2.2.2.2 (rd (Ty.zero tTxn) x.1 x.2.2.2.2.1)).bind fun y8 => (par_bif (par_ret _) (par_ret _))) par_none) (par_ret _)) par_none) (par_ret _)) par_none) (par_ret _))

def spec_ReadyDanger_j5000009 (x : q5T) (k : (q5T ⊕ q5T) → Option Res) : Option Res :=
    bif x.2.2.1 then
      k (.inl (x.1, true, x.2.2.1, x.2.2.2.1, x.2.2.2.2.1, x.2.2.2.2.2.1, x.2.2.2.2.2.2.1, x.2.2.2.2.2.2.2.1, x.2.2.2.2.2.2.2.2.1, x.2.2.2.2.2.2.2.2.2.1, x.2.2.2.2.2.2.2.2.2.2.1, x.2.2.2.2.2.2.2.2.2.2.2.1, x.2.2.2.2.2.2.2.2.2.2.2.2.1, x.2.2.2.2.2.2.2.2.2.2.2.2.2.1, x.2.2.2.2.2.2.2.2.2.2.2.2.2.2.1, x.2.2.2.2.2.2.2.2.2.2.2.2.2.2.2.1, x.2.2.2.2.2.2.2.2.2.2.2.2.2.2.2.2.1, x.2.2.2.2.2.2.2.2.2.2.2.2.2.2.2.2.2.1, x.2.2.2.2.2.2.2.2.2.2.2.2.2.2.2.2.2.2.1, x.2.2.2.2.2.2.2.2.2.2.2.2.2.2.2.2.2.2.2))
    else
      loopK spec_ReadyDanger_b2 Fuel (x.1, x.2.1, x.2.2.1, x.2.2.2.1, (0 : Int), x.2.2.2.2.1, x.2.2.2.2.2.1, x.2.2.2.2.2.2.1, x.2.2.2.2.2.2.2.1, x.2.2.2.2.2.2.2.2.1, x.2.2.2.2.2.2.2.2.2.1, x.2.2.2.2.2.2.2.2.2.2.1, x.2.2.2.2.2.2.2.2.2.2.2.1, x.2.2.2.2.2.2.2.2.2.2.2.2.1, x.2.2.2.2.2.2.2.2.2.2.2.2.2.1, x.2.2.2.2.2.2.2.2.2.2.2.2.2.2.1, x.2.2.2.2.2.2.2.2.2.2.2.2.2.2.2.1, x.2.2.2.2.2.2.2.2.2.2.2.2.2.2.2.2.1, x.2.2.2.2.2.2.2.2.2.2.2.2.2.2.2.2.2.1, x.2.2.2.2.2.2.2.2.2.2.2.2.2.2.2.2.2.2.1, x.2.2.2.2.2.2.2.2.2.2.2.2.2.2.2.2.2.2.2) (Sum.elim (fun z9 =>
        k (.inl (z9.1, z9.2.1, z9.2.2.1, z9.2.2.2.1, z9.2.2.2.2.2.1, z9.2.2.2.2.2.2.1, z9.2.2.2.2.2.2.2.1, z9.2.2.2.2.2.2.2.2.1, z9.2.2.2.2.2.2.2.2.2.1, z9.2.2.2.2.2.2.2.2.2.2.1, z9.2.2.2.2.2.2.2.2.2.2.2.1, z9.2.2.2.2.2.2.2.2.2.2.2.2.1, z9.2.2.2.2.2.2.2.2.2.2.2.2.2.1, z9.2.2.2.2.2.2.2.2.2.2.2.2.2.2.1, z9.2.2.2.2.2.2.2.2.2.2.2.2.2.2.2.1, z9.2.2.2.2.2.2.2.2.2.2.2.2.2.2.2.2.1, z9.2.2.2.2.2.2.2.2.2.2.2.2.2.2.2.2.2.1, z9.2.2.2.2.2.2.2.2.2.2.2.2.2.2.2.2.2.2.1, z9.2.2.2.2.2.2.2.2.2.2.2.2.2.2.2.2.2.2.2.1, z9.2.2.2.2.2.2.2.2.2.2.2.2.2.2.2.2.2.2.2.2))) (fun z10 =>
        k (.inr (z10.1, z10.2.1, z10.2.2.1, z10.2.2.2.1, z10.2.2.2.2.2.1, z10.2.2.2.2.2.2.1, z10.2.2.2.2.2.2.2.1, z10.2.2.2.2.2.2.2.2.1, z10.2.2.2.2.2.2.2.2.2.1, z10.2.2.2.2.2.2.2.2.2.2.1, z10.2.2.2.2.2.2.2.2.2.2.2.1, z10.2.2.2.2.2.2.2.2.2.2.2.2.1, z10.2.2.2.2.2.2.2.2.2.2.2.2.2.1, z10.2.2.2.2.2.2.2.2.2.2.2.2.2.2.1, z10.2.2.2.2.2.2.2.2.2.2.2.2.2.2.2.1, z10.2.2.2.2.2.2.2.2.2.2.2.2.2.2.2.2.1, z10.2.2.2.2.2.2.2.2.2.2.2.2.2.2.2.2.2.1, z10.2.2.2.2.2.2.2.2.2.2.2.2.2.2.2.2.2.2.1, z10.2.2.2.2.2.2.2.2.2.2.2.2.2.2.2.2.2.2.2.1, z10.2.2.2.2.2.2.2.2.2.2.2.2.2.2.2.2.2.2.2.2))))

theorem spec_ReadyDanger_jp5000009 (x : q5T) : Par (spec_ReadyDanger_j5000009 x) := by
  unfold spec_ReadyDanger_j5000009
  exact (par_bif (par_ret _) ((par_loop spec_ReadyDanger_bp2 Fuel (x.1, x.2.1, x.2.2.1, x.2.2.2.1, (0 : Int), x.2.2.2.2.1, x.2.2.2.2.2.1, x.2.2.2.2.2.2.1, x.2.2.2.2.2.2.2.1, x.2.2.2.2.2.2.2.2.1, x.2.2.2.2.2.2.2.2.2.1, x.2.2.2.2.2.2.2.2.2.2.1, x.2.2.2.2.2.2.2.2.2.2.2.1, x.2.2.2.2.2.2.2.2.2.2.2.2.1, x.2.2.2.2.2.2.2.2.2.2.2.2.2.1, x.2.2.2.2.2.2.2.2.2.2.2.2.2.2.1, x.2.2.2.2.2.2.2.2.2.2.2.2.2.2.2.1, x.2.2.2.2.2.2.2.2.2.2.2.2.2.2.2.2.1, x.2.2.2.2.2.2.2.2.2.2.2.2.2.2.2.2.2.1, x.2.2.2.2.2.2.2.2.2.2.2.2.2.2.2.2.2.2.1, x.2.2.2.2.2.2.2.2.2.2.2.2.2.2.2.2.2.2.2)).bind2 (fun z9 => (par_ret _)) (fun z10 => (par_ret _))))

def spec_ReadyDanger_b0 (x : q6T) (k : q6T ⊕ (q6T ⊕ q6T) → Option Res) : Option Res :=
    bif (decide (x.2.2.2.1 < (x.1.length : Int))) then
      if 0 ≤ x.2.2.2.1 ∧ x.2.2.2.1 < (x.1.length : Int) then
        bif ((rd (Ty.zero tTxn) x.1 x.2.2.2.1).2.1 != (2 : Int)) then
          k (.inl (x.1, x.2.1, x.2.2.1, (IntKind.wrap .i64 (x.2.2.2.1 + (1 : Int))), x.2.2.2.2.1, x.2.2.2.2.2.1, x.2.2.2.2.2.2.1, x.2.2.2.2.2.2.2.1, x.2.2.2.2.2.2.2.2.1, x.2.2.2.2.2.2.2.2.2.1, x.2.2.2.2.2.2.2.2.2.2.1, x.2.2.2.2.2.2.2.2.2.2.2))
        else
          spec_Ahead_k x.2.2.2.2 (rd (Ty.zero tTxn) x.1 x.2.2.2.1) (fun y5 =>
            bif (!y5) then
              k (.inl (x.1, x.2.1, x.2.2.1, (IntKind.wrap .i64 (x.2.2.2.1 + (1 : Int))), x.2.2.2.2.1, x.2.2.2.2.2.1, x.2.2.2.2.2.2.1, x.2.2.2.2.2.2.2.1, x.2.2.2.2.2.2.2.2.1, x.2.2.2.2.2.2.2.2.2.1, x.2.2.2.2.2.2.2.2.2.2.1, x.2.2.2.2.2.2.2.2.2.2.2))
            else
              spec_ReadyDanger_j5000009 (x.1, x.2.1, x.2.2.1, x.2.2.2.1, x.2.2.2.2.1, x.2.2.2.2.2.1, x.2.2.2.2.2.2.1, x.2.2.2.2.2.2.2.1, x.2.2.2.2.2.2.2.2.1, x.2.2.2.2.2.2.2.2.2.1, x.2.2.2.2.2.2.2.2.2.2.1, x.2.2.2.2.2.2.2.2.2.2.2, (rd (Ty.zero tTxn) x.1 x.2.2.2.1).1, (rd (Ty.zero tTxn) x.1 x.2.2.2.1).2.1, (rd (Ty.zero tTxn) x.1 x.2.2.2.1).2.2.1, (rd (Ty.zero tTxn) x.1 x.2.2.2.1).2.2.2.1, (rd (Ty.zero tTxn) x.1 x.2.2.2.1).2.2.2.2.1, (rd (Ty.zero tTxn) x.1 x.2.2.2.1).2.2.2.2.2.1, (rd (Ty.zero tTxn) x.1 x.2.2.2.1).2.2.2.2.2.2.1, (rd (Ty.zero tTxn) x.1 x.2.2.2.1).2.2.2.2.2.2.2) (Sum.elim (fun z6 =>
                k (.inr (.inr (z6.1, z6.2.1, z6.2.2.1, z6.2.2.2.1, z6.2.2.2.2.1, z6.2.2.2.2.2.1, z6.2.2.2.2.2.2.1, z6.2.2.2.2.2.2.2.1, z6.2.2.2.2.2.2.2.2.1, z6.2.2.2.2.2.2.2.2.2.1, z6.2.2.2.2.2.2.2.2.2.2.1, z6.2.2.2.2.2.2.2.2.2.2.2.1)))) (fun z7 =>
                k (.inl (z7.1, z7.2.1, z7.2.2.1, (IntKind.wrap .i64 (z7.2.2.2.1 + (1 : Int))), z7.2.2.2.2.1, z7.2.2.2.2.2.1, z7.2.2.2.2.2.2.1, z7.2.2.2.2.2.2.2.1, z7.2.2.2.2.2.2.2.2.1, z7.2.2.2.2.2.2.2.2.2.1, z7.2.2.2.2.2.2.2.2.2.2.1, z7.2.2.2.2.2.2.2.2.2.2.2.1)))))
      else none
    else
      k (.inr (.inl (x.1, x.2.1, x.2.2.1, x.2.2.2.1, x.2.2.2.2.1, x.2.2.2.2.2.1, x.2.2.2.2.2.2.1, x.2.2.2.2.2.2.2.1, x.2.2.2.2.2.2.2.2.1, x.2.2.2.2.2.2.2.2.2.1, x.2.2.2.2.2.2.2.2.2.2.1, x.2.2.2.2.2.2.2.2.2.2.2)))

theorem spec_ReadyDanger_bp0 (x : q6T) : Par (spec_ReadyDanger_b0 x) := by
  unfold spec_ReadyDanger_b0
  exact (par_bif (par_ite (c := 0 ≤ x.2.2.2.1 ∧ x.2.2.2.1 < (x.1.length : Int)) (par_bif (par_ret _) ((spec_Ahead_p x.2.2.2.2 (rd (Ty.zero tTxn) x.1 x.2.2.2.1)).bind fun y5 => (par_bif (par_ret _) ((spec_ReadyDanger_jp5000009 (x.1, x.2.1, x.2.2.1, x.2.2.2.1, x.2.2.2.2.1, x.2.2.2.2.2.1, x.2.2.2.2.2.2.1, x.2.2.2.2.2.2.2.1, x.2.2.2.2.2.2.2.2.1, x.2.2.2.2.2.2.2.2.2.1, x.2.2.2.2.2.2.2.2.2.2.1, x.2.2.2.2.2.2.2.2.2.2.2, (rd (Ty.zero tTxn) x.1 x.2.2.2.1).1, (rd (Ty.zero tTxn) x.1 x.2.2.2.1).2.1, (rd (Ty.zero tTxn) x.1 x.2.2.2.1).2.2.1, (rd (Ty.zero tTxn) x.1 x.2.2.2.1).2.2.2.1, (rd (Ty.zero tTxn) x.1 x.2.2.2.1).2.2.2.2.1, (rd (Ty.zero tTxn) x.1 x.2.2.2.1).2.2.2.2.2.1, (rd (Ty.zero tTxn) x.1 x.2.2.2.1).2.2.2.2.2.2.1, (rd (Ty.zero tTxn) x.1 x.2.2.2.1).2.2.2.2.2.2.2)).bind2 (fun z6 => (par_ret _)) (fun z7 => (par_ret _)))))) par_none) (par_ret _))

def spec_ReadyDanger_d (a0 : dTxn) (a1 : (List dTxn)) (k : Bool → Option Res) : Option Res :=
  spec_Danger_k a0 a1 (fun y1 =>
    bif y1 then
      k true
    else
      spec_InOf_k a0 a1 (fun y2 =>
        loopK spec_ReadyDanger_b0 Fuel (a1, false, y2, (0 : Int), a0.1, a0.2.1, a0.2.2.1, a0.2.2.2.1, a0.2.2.2.2.1, a0.2.2.2.2.2.1, a0.2.2.2.2.2.2.1, a0.2.2.2.2.2.2.2) (Sum.elim (fun _ =>
          k false) (fun z4 =>
          k z4.2.1))))

theorem spec_ReadyDanger_h : ∃ g : dTxn → (List dTxn) → (Bool → Option Res) → Option Res, g = spec_ReadyDanger_d := ⟨_, rfl⟩
def spec_ReadyDanger_k : dTxn → (List dTxn) → (Bool → Option Res) → Option Res := Classical.choose spec_ReadyDanger_h
theorem spec_ReadyDanger_e : spec_ReadyDanger_k = spec_ReadyDanger_d := Classical.choose_spec spec_ReadyDanger_h

theorem spec_ReadyDanger_p (a0 : dTxn) (a1 : (List dTxn)) : Par (spec_ReadyDanger_k a0 a1) := by
  rw [spec_ReadyDanger_e]
  unfold spec_ReadyDanger_d
  exact ((spec_Danger_p a0 a1).bind fun y1 => (par_bif (par_ret _) ((spec_InOf_p a0 a1).bind fun y2 => ((par_loop spec_ReadyDanger_bp0 Fuel (a1, false, y2, (0 : Int), a0.1, a0.2.1, a0.2.2.1, a0.2.2.2.1, a0.2.2.2.2.1, a0.2.2.2.2.2.1, a0.2.2.2.2.2.2.1, a0.2.2.2.2.2.2.2)).bind2 (fun z3 => (par_ret _)) (fun z4 => (par_ret _))))))

def impl_Meets_b2 (x : q20T) (k : q20T ⊕ (q20T ⊕ q20T) → Option Res) : Option Res :=
    bif (decide (x.2.2.2.2.2.2.2.1 < x.2.2.2.2.2.2.1)) then
      if 0 ≤ x.2.2.2.2.2.2.2.1 ∧ x.2.2.2.2.2.2.2.1 < (x.2.2.2.2.2.1.length : Int) then
        bif (strEq x.2.2.2.2.2.2.2.2.1 ((rd (Ty.zero tWrite) x.2.2.2.2.2.1 x.2.2.2.2.2.2.2.1).1)) then
          k (.inr (.inl (x.1, true, x.2.2.1, x.2.2.2.1, x.2.2.2.2.1, x.2.2.2.2.2.1, x.2.2.2.2.2.2.1, x.2.2.2.2.2.2.2.1, x.2.2.2.2.2.2.2.2.1, x.2.2.2.2.2.2.2.2.2.1, x.2.2.2.2.2.2.2.2.2.2)))
        else
          k (.inl (x.1, x.2.1, x.2.2.1, x.2.2.2.1, x.2.2.2.2.1, x.2.2.2.2.2.1, x.2.2.2.2.2.2.1, (IntKind.wrap .i64 (x.2.2.2.2.2.2.2.1 + (1 : Int))), x.2.2.2.2.2.2.2.2.1, x.2.2.2.2.2.2.2.2.2.1, x.2.2.2.2.2.2.2.2.2.2))
      else none
    else
      k (.inr (.inr (x.1, x.2.1, x.2.2.1, x.2.2.2.1, x.2.2.2.2.1, x.2.2.2.2.2.1, x.2.2.2.2.2.2.1, x.2.2.2.2.2.2.2.1, x.2.2.2.2.2.2.2.2.1, x.2.2.2.2.2.2.2.2.2.1, x.2.2.2.2.2.2.2.2.2.2)))

theorem impl_Meets_bp2 (x : q20T) : Par (impl_Meets_b2 x) := by
  unfold impl_Meets_b2
  exact (par_bif (par_ite (c := 0 ≤ x.2.2.2.2.2.2.2.1 ∧ x.2.2.2.2.2.2.2.1 < (x.2.2.2.2.2.1.length : Int)) (par_bif (par_ret _) (par_ret _)) par_none) (par_ret _))

def impl_Meets_b0 (x : q21T) (k : q21T ⊕ (q21T ⊕ q21T) → Option Res) : Option Res :=
    bif (decide (x.2.2.2.2 < x.2.2.2.1)) then
      if 0 ≤ x.2.2.2.2 ∧ x.2.2.2.2 < (x.2.2.1.length : Int) then
        loopK impl_Meets_b2 Fuel (x.1, x.2.1, x.2.2.1, x.2.2.2.1, x.2.2.2.2, x.1, (x.1.length : Int), (0 : Int), (rd (Ty.zero tWrite) x.2.2.1 x.2.2.2.2).1, (rd (Ty.zero tWrite) x.2.2.1 x.2.2.2.2).2.1, (rd (Ty.zero tWrite) x.2.2.1 x.2.2.2.2).2.2) (Sum.elim (fun z3 =>
          k (.inr (.inr (z3.1, z3.2.1, z3.2.2.1, z3.2.2.2.1, z3.2.2.2.2.1)))) (fun z4 =>
          k (.inl (z4.1, z4.2.1, z4.2.2.1, z4.2.2.2.1, (IntKind.wrap .i64 (z4.2.2.2.2.1 + (1 : Int)))))))
      else none
    else
      k (.inr (.inl (x.1, x.2.1, x.2.2.1, x.2.2.2.1, x.2.2.2.2)))

theorem impl_Meets_bp0 (x : q21T) : Par (impl_Meets_b0 x) := by
  unfold impl_Meets_b0
  exact (par_bif (par_ite (c := 0 ≤ x.2.2.2.2 ∧ x.2.2.2.2 < (x.2.2.1.length : Int)) ((par_loop impl_Meets_bp2 Fuel (x.1, x.2.1, x.2.2.1, x.2.2.2.1, x.2.2.2.2, x.1, (x.1.length : Int), (0 : Int), (rd (Ty.zero tWrite) x.2.2.1 x.2.2.2.2).1, (rd (Ty.zero tWrite) x.2.2.1 x.2.2.2.2).2.1, (rd (Ty.zero tWrite) x.2.2.1 x.2.2.2.2).2.2)).bind2 (fun z3 => (par_ret _)) (fun z4 => (par_ret _))) par_none) (par_ret _))

def impl_Meets_d (a0 : (List dWrite)) (a1 : (List dWrite)) (k : Bool → Option Res) : Option Res :=
  loopK impl_Meets_b0 Fuel (a1, false, a0, (a0.length : Int), (0 : Int)) (Sum.elim (fun _ =>
    k false) (fun z2 =>
    k z2.2.1))

theorem impl_Meets_h : ∃ g : (List dWrite) → (List dWrite) → (Bool → Option Res) → Option Res, g = impl_Meets_d := ⟨_, rfl⟩
def impl_Meets_k : (List dWrite) → (List dWrite) → (Bool → Option Res) → Option Res := Classical.choose impl_Meets_h
theorem impl_Meets_e : impl_Meets_k = impl_Meets_d := Classical.choose_spec impl_Meets_h

theorem impl_Meets_p (a0 : (List dWrite)) (a1 : (List dWrite)) : Par (impl_Meets_k a0 a1) := by
  rw [impl_Meets_e]
  unfold impl_Meets_d
  exact ((par_loop impl_Meets_bp0 Fuel (a1, false, a0, (a0.length : Int), (0 : Int))).bind2 (fun z1 => (par_ret _)) (fun z2 => (par_ret _)))

def impl_Blocked_1_d (a0 : dTxn) (a1 : Int) (a2 : Int) (a3 : Int) (a4 : Int) (a5 : (List dRange)) (a6 : (List dWrite)) (a7 : Bool) (a8 : ByteArray) (k : q29T → Option Res) : Option Res :=
  bif (a0.1 != a1) then
    impl_isReady_k a0 (fun y1 =>
      bif y1 then
        impl_Meets_k a0.2.2.2.2.2.1 a6 (fun y2 =>
          k (y2, a1, a2, a3, a4, a5, a6, a7, a8))
      else
        impl_isDone_k a0 (fun y3 =>
          bif y3 then
            bif (decide (a0.2.2.2.1 > a3)) then
              impl_Meets_k a0.2.2.2.2.2.1 a6 (fun y4 =>
                k (y4, a1, a2, a3, a4, a5, a6, a7, a8))
            else
              k (false, a1, a2, a3, a4, a5, a6, a7, a8)
          else
            k (false, a1, a2, a3, a4, a5, a6, a7, a8)))
  else
    k (false, a1, a2, a3, a4, a5, a6, a7, a8)

theorem impl_Blocked_1_h : ∃ g : dTxn → Int → Int → Int → Int → (List dRange) → (List dWrite) → Bool → ByteArray → (q29T → Option Res) → Option Res, g = impl_Blocked_1_d := ⟨_, rfl⟩
def impl_Blocked_1_k : dTxn → Int → Int → Int → Int → (List dRange) → (List dWrite) → Bool → ByteArray → (q29T → Option Res) → Option Res := Classical.choose impl_Blocked_1_h
theorem impl_Blocked_1_e : impl_Blocked_1_k = impl_Blocked_1_d := Classical.choose_spec impl_Blocked_1_h

theorem impl_Blocked_1_p (a0 : dTxn) (a1 : Int) (a2 : Int) (a3 : Int) (a4 : Int) (a5 : (List dRange)) (a6 : (List dWrite)) (a7 : Bool) (a8 : ByteArray) : Par (impl_Blocked_1_k a0 a1 a2 a3 a4 a5 a6 a7 a8) := by
  rw [impl_Blocked_1_e]
  unfold impl_Blocked_1_d
  exact (par_bif ((impl_isReady_p a0).bind fun y1 => (par_bif ((impl_Meets_p a0.2.2.2.2.2.1 a6).bind fun y2 => (par_ret _)) ((impl_isDone_p a0).bind fun y3 => (par_bif (par_bif ((impl_Meets_p a0.2.2.2.2.2.1 a6).bind fun y4 => (par_ret _)) (par_ret _)) (par_ret _))))) (par_ret _))

def slices_IndexFunc_Txn_Blocked_1_b0 (x : q15T) (k : q15T ⊕ (q15T ⊕ q15T) → Option Res) : Option Res :=
    bif (decide (x.2.2.2.1 < x.2.2.1)) then
      if 0 ≤ x.2.2.2.1 ∧ x.2.2.2.1 < (x.1.length : Int) then
        impl_Blocked_1_k (rd (Ty.zero tTxn) x.1 x.2.2.2.1) x.2.2.2.2.1 x.2.2.2.2.2.1 x.2.2.2.2.2.2.1 x.2.2.2.2.2.2.2.1 x.2.2.2.2.2.2.2.2.1 x.2.2.2.2.2.2.2.2.2.1 x.2.2.2.2.2.2.2.2.2.2.1 x.2.2.2.2.2.2.2.2.2.2.2 (fun y3 =>
          bif y3.1 then
            k (.inr (.inl (x.1, x.2.2.2.1, x.2.2.1, x.2.2.2.1, y3.2.1, y3.2.2.1, y3.2.2.2.1, y3.2.2.2.2.1, y3.2.2.2.2.2.1, y3.2.2.2.2.2.2.1, y3.2.2.2.2.2.2.2.1, y3.2.2.2.2.2.2.2.2)))
          else
            k (.inl (x.1, x.2.1, x.2.2.1, (IntKind.wrap .i64 (x.2.2.2.1 + (1 : Int))), y3.2.1, y3.2.2.1, y3.2.2.2.1, y3.2.2.2.2.1, y3.2.2.2.2.2.1, y3.2.2.2.2.2.2.1, y3.2.2.2.2.2.2.2.1, y3.2.2.2.2.2.2.2.2)))
      else none
    else
      k (.inr (.inr (x.1, x.2.1, x.2.2.1, x.2.2.2.1, x.2.2.2.2.1, x.2.2.2.2.2.1, x.2.2.2.2.2.2.1, x.2.2.2.2.2.2.2.1, x.2.2.2.2.2.2.2.2.1, x.2.2.2.2.2.2.2.2.2.1, x.2.2.2.2.2.2.2.2.2.2.1, x.2.2.2.2.2.2.2.2.2.2.2)))

theorem slices_IndexFunc_Txn_Blocked_1_bp0 (x : q15T) : Par (slices_IndexFunc_Txn_Blocked_1_b0 x) := by
  unfold slices_IndexFunc_Txn_Blocked_1_b0
  exact (par_bif (par_ite (c := 0 ≤ x.2.2.2.1 ∧ x.2.2.2.1 < (x.1.length : Int)) ((impl_Blocked_1_p (rd (Ty.zero tTxn) x.1 x.2.2.2.1) x.2.2.2.2.1 x.2.2.2.2.2.1 x.2.2.2.2.2.2.1 x.2.2.2.2.2.2.2.1 x.2.2.2.2.2.2.2.2.1 x.2.2.2.2.2.2.2.2.2.1 x.2.2.2.2.2.2.2.2.2.2.1 x.2.2.2.2.2.2.2.2.2.2.2).bind fun y3 => (par_bif (par_ret _) (par_ret _))) par_none) (par_ret _))

def slices_IndexFunc_Txn_Blocked_1_d (a0 : (List dTxn)) (a1 : Int) (a2 : Int) (a3 : Int) (a4 : Int) (a5 : (List dRange)) (a6 : (List dWrite)) (a7 : Bool) (a8 : ByteArray) (k : q42T → Option Res) : Option Res :=
  loopK slices_IndexFunc_Txn_Blocked_1_b0 Fuel (a0, (0 : Int), (a0.length : Int), (0 : Int), a1, a2, a3, a4, a5, a6, a7, a8) (Sum.elim (fun z1 =>
    k (z1.2.1, z1.2.2.2.2.1, z1.2.2.2.2.2.1, z1.2.2.2.2.2.2.1, z1.2.2.2.2.2.2.2.1, z1.2.2.2.2.2.2.2.2.1, z1.2.2.2.2.2.2.2.2.2.1, z1.2.2.2.2.2.2.2.2.2.2.1, z1.2.2.2.2.2.2.2.2.2.2.2)) (fun z2 =>
    k ((-1 : Int), z2.2.2.2.2.1, z2.2.2.2.2.2.1, z2.2.2.2.2.2.2.1, z2.2.2.2.2.2.2.2.1, z2.2.2.2.2.2.2.2.2.1, z2.2.2.2.2.2.2.2.2.2.1, z2.2.2.2.2.2.2.2.2.2.2.1, z2.2.2.2.2.2.2.2.2.2.2.2)))

theorem slices_IndexFunc_Txn_Blocked_1_h : ∃ g : (List dTxn) → Int → Int → Int → Int → (List dRange) → (List dWrite) → Bool → ByteArray → (q42T → Option Res) → Option Res, g = slices_IndexFunc_Txn_Blocked_1_d := ⟨_, rfl⟩
def slices_IndexFunc_Txn_Blocked_1_k : (List dTxn) → Int → Int → Int → Int → (List dRange) → (List dWrite) → Bool → ByteArray → (q42T → Option Res) → Option Res := Classical.choose slices_IndexFunc_Txn_Blocked_1_h
theorem slices_IndexFunc_Txn_Blocked_1_e : slices_IndexFunc_Txn_Blocked_1_k = slices_IndexFunc_Txn_Blocked_1_d := Classical.choose_spec slices_IndexFunc_Txn_Blocked_1_h

theorem slices_IndexFunc_Txn_Blocked_1_p (a0 : (List dTxn)) (a1 : Int) (a2 : Int) (a3 : Int) (a4 : Int) (a5 : (List dRange)) (a6 : (List dWrite)) (a7 : Bool) (a8 : ByteArray) : Par (slices_IndexFunc_Txn_Blocked_1_k a0 a1 a2 a3 a4 a5 a6 a7 a8) := by
  rw [slices_IndexFunc_Txn_Blocked_1_e]
  unfold slices_IndexFunc_Txn_Blocked_1_d
  exact ((par_loop slices_IndexFunc_Txn_Blocked_1_bp0 Fuel (a0, (0 : Int), (a0.length : Int), (0 : Int), a1, a2, a3, a4, a5, a6, a7, a8)).bind2 (fun z1 => (par_ret _)) (fun z2 => (par_ret _)))

def slices_ContainsFunc_Txn_Blocked_1_d (a0 : (List dTxn)) (a1 : Int) (a2 : Int) (a3 : Int) (a4 : Int) (a5 : (List dRange)) (a6 : (List dWrite)) (a7 : Bool) (a8 : ByteArray) (k : q29T → Option Res) : Option Res :=
  slices_IndexFunc_Txn_Blocked_1_k a0 a1 a2 a3 a4 a5 a6 a7 a8 (fun y1 =>
    k ((decide (y1.1 ≥ (0 : Int))), y1.2.1, y1.2.2.1, y1.2.2.2.1, y1.2.2.2.2.1, y1.2.2.2.2.2.1, y1.2.2.2.2.2.2.1, y1.2.2.2.2.2.2.2.1, y1.2.2.2.2.2.2.2.2))

theorem slices_ContainsFunc_Txn_Blocked_1_h : ∃ g : (List dTxn) → Int → Int → Int → Int → (List dRange) → (List dWrite) → Bool → ByteArray → (q29T → Option Res) → Option Res, g = slices_ContainsFunc_Txn_Blocked_1_d := ⟨_, rfl⟩
def slices_ContainsFunc_Txn_Blocked_1_k : (List dTxn) → Int → Int → Int → Int → (List dRange) → (List dWrite) → Bool → ByteArray → (q29T → Option Res) → Option Res := Classical.choose slices_ContainsFunc_Txn_Blocked_1_h
theorem slices_ContainsFunc_Txn_Blocked_1_e : slices_ContainsFunc_Txn_Blocked_1_k = slices_ContainsFunc_Txn_Blocked_1_d := Classical.choose_spec slices_ContainsFunc_Txn_Blocked_1_h

theorem slices_ContainsFunc_Txn_Blocked_1_p (a0 : (List dTxn)) (a1 : Int) (a2 : Int) (a3 : Int) (a4 : Int) (a5 : (List dRange)) (a6 : (List dWrite)) (a7 : Bool) (a8 : ByteArray) : Par (slices_ContainsFunc_Txn_Blocked_1_k a0 a1 a2 a3 a4 a5 a6 a7 a8) := by
  rw [slices_ContainsFunc_Txn_Blocked_1_e]
  unfold slices_ContainsFunc_Txn_Blocked_1_d
  exact ((slices_IndexFunc_Txn_Blocked_1_p a0 a1 a2 a3 a4 a5 a6 a7 a8).bind fun y1 => (par_ret _))

def impl_some_Blocked_1_d (a0 : (List dTxn)) (a1 : Int) (a2 : Int) (a3 : Int) (a4 : Int) (a5 : (List dRange)) (a6 : (List dWrite)) (a7 : Bool) (a8 : ByteArray) (k : q29T → Option Res) : Option Res :=
  slices_ContainsFunc_Txn_Blocked_1_k a0 a1 a2 a3 a4 a5 a6 a7 a8 (fun y1 =>
    k (y1.1, y1.2.1, y1.2.2.1, y1.2.2.2.1, y1.2.2.2.2.1, y1.2.2.2.2.2.1, y1.2.2.2.2.2.2.1, y1.2.2.2.2.2.2.2.1, y1.2.2.2.2.2.2.2.2))

theorem impl_some_Blocked_1_h : ∃ g : (List dTxn) → Int → Int → Int → Int → (List dRange) → (List dWrite) → Bool → ByteArray → (q29T → Option Res) → Option Res, g = impl_some_Blocked_1_d := ⟨_, rfl⟩
def impl_some_Blocked_1_k : (List dTxn) → Int → Int → Int → Int → (List dRange) → (List dWrite) → Bool → ByteArray → (q29T → Option Res) → Option Res := Classical.choose impl_some_Blocked_1_h
theorem impl_some_Blocked_1_e : impl_some_Blocked_1_k = impl_some_Blocked_1_d := Classical.choose_spec impl_some_Blocked_1_h

theorem impl_some_Blocked_1_p (a0 : (List dTxn)) (a1 : Int) (a2 : Int) (a3 : Int) (a4 : Int) (a5 : (List dRange)) (a6 : (List dWrite)) (a7 : Bool) (a8 : ByteArray) : Par (impl_some_Blocked_1_k a0 a1 a2 a3 a4 a5 a6 a7 a8) := by
  rw [impl_some_Blocked_1_e]
  unfold impl_some_Blocked_1_d
  exact ((slices_ContainsFunc_Txn_Blocked_1_p a0 a1 a2 a3 a4 a5 a6 a7 a8).bind fun y1 => (par_ret _))

def impl_Blocked_d (a0 : dTxn) (a1 : (List dTxn)) (k : Bool → Option Res) : Option Res :=
  impl_some_Blocked_1_k a1 a0.1 a0.2.1 a0.2.2.1 a0.2.2.2.1 a0.2.2.2.2.1 a0.2.2.2.2.2.1 a0.2.2.2.2.2.2.1 a0.2.2.2.2.2.2.2 (fun y1 =>
    k y1.1)

theorem impl_Blocked_h : ∃ g : dTxn → (List dTxn) → (Bool → Option Res) → Option Res, g = impl_Blocked_d := ⟨_, rfl⟩
def impl_Blocked_k : dTxn → (List dTxn) → (Bool → Option Res) → Option Res := Classical.choose impl_Blocked_h
theorem impl_Blocked_e : impl_Blocked_k = impl_Blocked_d := Classical.choose_spec impl_Blocked_h

theorem impl_Blocked_p (a0 : dTxn) (a1 : (List dTxn)) : Par (impl_Blocked_k a0 a1) := by
  rw [impl_Blocked_e]
  unfold impl_Blocked_d
  exact ((impl_some_Blocked_1_p a1 a0.1 a0.2.1 a0.2.2.1 a0.2.2.2.1 a0.2.2.2.2.1 a0.2.2.2.2.2.1 a0.2.2.2.2.2.2.1 a0.2.2.2.2.2.2.2).bind fun y1 => (par_ret _))

def spec_Meets_b2 (x : q16T) (k : q16T ⊕ (q16T ⊕ q16T) → Option Res) : Option Res :=
    bif (decide (x.2.2.2.2 < (x.2.1.length : Int))) then
      if 0 ≤ x.2.2.2.1 ∧ x.2.2.2.1 < (x.1.length : Int) then
        if 0 ≤ x.2.2.2.2 ∧ x.2.2.2.2 < (x.2.1.length : Int) then
          bif (strEq ((rd (Ty.zero tWrite) x.1 x.2.2.2.1).1) ((rd (Ty.zero tWrite) x.2.1 x.2.2.2.2).1)) then
            k (.inr (.inl (x.1, x.2.1, true, x.2.2.2.1, x.2.2.2.2)))
          else
            k (.inl (x.1, x.2.1, x.2.2.1, x.2.2.2.1, (IntKind.wrap .i64 (x.2.2.2.2 + (1 : Int)))))
        else none
      else none
    else
      k (.inr (.inr (x.1, x.2.1, x.2.2.1, x.2.2.2.1, x.2.2.2.2)))

theorem spec_Meets_bp2 (x : q16T) : Par (spec_Meets_b2 x) := by
  unfold spec_Meets_b2
  exact (par_bif (par_ite (c := 0 ≤ x.2.2.2.1 ∧ x.2.2.2.1 < (x.1.length : Int)) (par_ite (c := 0 ≤ x.2.2.2.2 ∧ x.2.2.2.2 < (x.2.1.length : Int)) (par_bif (par_ret _) (par_ret _)) par_none) par_none) (par_ret _))

def spec_Meets_b0 (x : q17T) (k : q17T ⊕ (q17T ⊕ q17T) → Option Res) : Option Res :=
    bif (decide (x.2.2.2 < (x.1.length : Int))) then
      loopK spec_Meets_b2 Fuel (x.1, x.2.1, x.2.2.1, x.2.2.2, (0 : Int)) (Sum.elim (fun z3 =>
        k (.inr (.inr (z3.1, z3.2.1, z3.2.2.1, z3.2.2.2.1)))) (fun z4 =>
        k (.inl (z4.1, z4.2.1, z4.2.2.1, (IntKind.wrap .i64 (z4.2.2.2.1 + (1 : Int)))))))
    else
      k (.inr (.inl (x.1, x.2.1, x.2.2.1, x.2.2.2)))

theorem spec_Meets_bp0 (x : q17T) : Par (spec_Meets_b0 x) := by
  unfold spec_Meets_b0
  exact (par_bif ((par_loop spec_Meets_bp2 Fuel (x.1, x.2.1, x.2.2.1, x.2.2.2, (0 : Int))).bind2 (fun z3 => (par_ret _)) (fun z4 => (par_ret _))) (par_ret _))

def spec_Meets_d (a0 : (List dWrite)) (a1 : (List dWrite)) (k : Bool → Option Res) : Option Res :=
  loopK spec_Meets_b0 Fuel (a0, a1, false, (0 : Int)) (Sum.elim (fun _ =>
    k false) (fun z2 =>
    k z2.2.2.1))

theorem spec_Meets_h : ∃ g : (List dWrite) → (List dWrite) → (Bool → Option Res) → Option Res, g = spec_Meets_d := ⟨_, rfl⟩
def spec_Meets_k : (List dWrite) → (List dWrite) → (Bool → Option Res) → Option Res := Classical.choose spec_Meets_h
theorem spec_Meets_e : spec_Meets_k = spec_Meets_d := Classical.choose_spec spec_Meets_h

theorem spec_Meets_p (a0 : (List dWrite)) (a1 : (List dWrite)) : Par (spec_Meets_k a0 a1) := by
  rw [spec_Meets_e]
  unfold spec_Meets_d
  exact ((par_loop spec_Meets_bp0 Fuel (a0, a1, false, (0 : Int))).bind2 (fun z1 => (par_ret _)) (fun z2 => (par_ret _)))

def spec_Blocked_b0 (x : q10T) (k : q10T ⊕ (q10T ⊕ q10T) → Option Res) : Option Res :=
    bif (decide (x.2.2.1 < (x.1.length : Int))) then
      if 0 ≤ x.2.2.1 ∧ x.2.2.1 < (x.1.length : Int) then
        bif ((rd (Ty.zero tTxn) x.1 x.2.2.1).1 != x.2.2.2.1) then
          bif ((rd (Ty.zero tTxn) x.1 x.2.2.1).2.1 == (2 : Int)) then
            spec_Meets_k ((rd (Ty.zero tTxn) x.1 x.2.2.1).2.2.2.2.2.1) x.2.2.2.2.2.2.2.2.1 (fun y3 =>
              bif y3 then
                k (.inr (.inl (x.1, true, x.2.2.1, x.2.2.2.1, x.2.2.2.2.1, x.2.2.2.2.2.1, x.2.2.2.2.2.2.1, x.2.2.2.2.2.2.2.1, x.2.2.2.2.2.2.2.2.1, x.2.2.2.2.2.2.2.2.2.1, x.2.2.2.2.2.2.2.2.2.2)))
              else
                k (.inl (x.1, x.2.1, (IntKind.wrap .i64 (x.2.2.1 + (1 : Int))), x.2.2.2.1, x.2.2.2.2.1, x.2.2.2.2.2.1, x.2.2.2.2.2.2.1, x.2.2.2.2.2.2.2.1, x.2.2.2.2.2.2.2.2.1, x.2.2.2.2.2.2.2.2.2.1, x.2.2.2.2.2.2.2.2.2.2)))
          else
            bif ((rd (Ty.zero tTxn) x.1 x.2.2.1).2.1 == (3 : Int)) then
              bif (decide ((rd (Ty.zero tTxn) x.1 x.2.2.1).2.2.2.1 > x.2.2.2.2.2.1)) then
                spec_Meets_k ((rd (Ty.zero tTxn) x.1 x.2.2.1).2.2.2.2.2.1) x.2.2.2.2.2.2.2.2.1 (fun y4 =>
                  bif y4 then
                    k (.inr (.inl (x.1, true, x.2.2.1, x.2.2.2.1, x.2.2.2.2.1, x.2.2.2.2.2.1, x.2.2.2.2.2.2.1, x.2.2.2.2.2.2.2.1, x.2.2.2.2.2.2.2.2.1, x.2.2.2.2.2.2.2.2.2.1, x.2.2.2.2.2.2.2.2.2.2)))
                  else
                    k (.inl (x.1, x.2.1, (IntKind.wrap .i64 (x.2.2.1 + (1 : Int))), x.2.2.2.1, x.2.2.2.2.1, x.2.2.2.2.2.1, x.2.2.2.2.2.2.1, x.2.2.2.2.2.2.2.1, x.2.2.2.2.2.2.2.2.1, x.2.2.2.2.2.2.2.2.2.1, x.2.2.2.2.2.2.2.2.2.2)))
              else
                k (.inl (x.1, x.2.1, (IntKind.wrap .i64 (x.2.2.1 + (1 : Int))), x.2.2.2.1, x.2.2.2.2.1, x.2.2.2.2.2.1, x.2.2.2.2.2.2.1, x.2.2.2.2.2.2.2.1, x.2.2.2.2.2.2.2.2.1, x.2.2.2.2.2.2.2.2.2.1, x.2.2.2.2.2.2.2.2.2.2))
            else
              k (.inl (x.1, x.2.1, (IntKind.wrap .i64 (x.2.2.1 + (1 : Int))), x.2.2.2.1, x.2.2.2.2.1, x.2.2.2.2.2.1, x.2.2.2.2.2.2.1, x.2.2.2.2.2.2.2.1, x.2.2.2.2.2.2.2.2.1, x.2.2.2.2.2.2.2.2.2.1, x.2.2.2.2.2.2.2.2.2.2))
        else
          k (.inl (x.1, x.2.1, (IntKind.wrap .i64 (x.2.2.1 + (1 : Int))), x.2.2.2.1, x.2.2.2.2.1, x.2.2.2.2.2.1, x.2.2.2.2.2.2.1, x.2.2.2.2.2.2.2.1, x.2.2.2.2.2.2.2.2.1, x.2.2.2.2.2.2.2.2.2.1, x.2.2.2.2.2.2.2.2.2.2))
      else none
    else
      k (.inr (.inr (x.1, x.2.1, x.2.2.1, x.2.2.2.1, x.2.2.2.2.1, x.2.2.2.2.2.1, x.2.2.2.2.2.2.1, x.2.2.2.2.2.2.2.1, x.2.2.2.2.2.2.2.2.1, x.2.2.2.2.2.2.2.2.2.1, x.2.2.2.2.2.2.2.2.2.2)))

theorem spec_Blocked_bp0 (x : q10T) : Par (spec_Blocked_b0 x) := by
  unfold spec_Blocked_b0
  exact (par_bif (par_ite (c := 0 ≤ x.2.2.1 ∧ x.2.2.1 < (x.1.length : Int)) (par_bif (par_bif ((spec_Meets_p ((rd (Ty.zero tTxn) x.1 x.2.2.1).2.2.2.2.2.1) x.2.2.2.2.2.2.2.2.1).bind fun y3 => (par_bif (par_ret _) (par_ret _))) (par_bif (par_bif ((spec_Meets_p ((rd (Ty.zero tTxn) x.1 x.2.2.1).2.2.2.2.2.1) x.2.2.2.2.2.2.2.2.1).bind fun y4 => (par_bif (par_ret _) (par_ret _))) (par_ret _)) (par_ret _))) (par_ret _)) par_none) (par_ret _))

def spec_Blocked_d (a0 : dTxn) (a1 : (List dTxn)) (k : Bool → Option Res) : Option Res :=
  loopK spec_Blocked_b0 Fuel (a1, false, (0 : Int), a0.1, a0.2.1, a0.2.2.1, a0.2.2.2.1, a0.2.2.2.2.1, a0.2.2.2.2.2.1, a0.2.2.2.2.2.2.1, a0.2.2.2.2.2.2.2) (Sum.elim (fun z1 =>
    k z1.2.1) (fun _ =>
    k false))

theorem spec_Blocked_h : ∃ g : dTxn → (List dTxn) → (Bool → Option Res) → Option Res, g = spec_Blocked_d := ⟨_, rfl⟩
def spec_Blocked_k : dTxn → (List dTxn) → (Bool → Option Res) → Option Res := Classical.choose spec_Blocked_h
theorem spec_Blocked_e : spec_Blocked_k = spec_Blocked_d := Classical.choose_spec spec_Blocked_h

theorem spec_Blocked_p (a0 : dTxn) (a1 : (List dTxn)) : Par (spec_Blocked_k a0 a1) := by
  rw [spec_Blocked_e]
  unfold spec_Blocked_d
  exact ((par_loop spec_Blocked_bp0 Fuel (a1, false, (0 : Int), a0.1, a0.2.1, a0.2.2.1, a0.2.2.2.1, a0.2.2.2.2.1, a0.2.2.2.2.2.1, a0.2.2.2.2.2.2.1, a0.2.2.2.2.2.2.2)).bind2 (fun z1 => (par_ret _)) (fun z2 => (par_ret _)))

end

end Go.VE
