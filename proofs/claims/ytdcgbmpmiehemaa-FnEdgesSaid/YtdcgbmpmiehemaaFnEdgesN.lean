/- Native programs of the functions, written by gen.py. -/

import Derived.Test.YtdcgbmpmiehemaaT0

namespace Go.VE

noncomputable section

set_option linter.unusedVariables false
set_option linter.unusedSimpArgs false
set_option maxRecDepth 100000


def laws_big_d (a0 : (List Int)) (k : Bool → Option Res) : Option Res :=
  k (decide ((a0.length : Int) > (1048576 : Int)))

theorem laws_big_h : ∃ g : (List Int) → (Bool → Option Res) → Option Res, g = laws_big_d := ⟨_, rfl⟩
def laws_big_k : (List Int) → (Bool → Option Res) → Option Res := Classical.choose laws_big_h
theorem laws_big_e : laws_big_k = laws_big_d := Classical.choose_spec laws_big_h

theorem laws_big_p (a0 : (List Int)) : Par (laws_big_k a0) := by
  rw [laws_big_e]
  unfold laws_big_d
  exact (par_ret _)

def spec_l01New_j6000001 (x : ((List Int) × Int × Int)) (k : ((List Int) × Int × Int) → Option Res) : Option Res :=
    if 0 ≤ x.2.2 ∧ x.2.2 < (x.1.length : Int) then
      k (x.1, (IntKind.wrap .i64 (BitVec.ofInt (IntKind.bits .i64) (IntKind.wrap .i64 ((IntKind.wrap .i64 ((IntKind.wrap .i64 (x.2.1 * (131 : Int))) + (IntKind.wrap .i64 (rd (Ty.zero (.int .u8)) x.1 x.2.2)))) + (7 : Int))) &&& BitVec.ofInt (IntKind.bits .i64) (1073741823 : Int)).toNat), (IntKind.wrap .i64 (x.2.2 + (1 : Int))))
    else none

theorem spec_l01New_jp6000001 (x : ((List Int) × Int × Int)) : Par (spec_l01New_j6000001 x) := by
  unfold spec_l01New_j6000001
  exact (par_ite (c := 0 ≤ x.2.2 ∧ x.2.2 < (x.1.length : Int)) (par_ret _) par_none)

def spec_l01New_b0 (x : ((List Int) × Int × Int)) (k : ((List Int) × Int × Int) ⊕ ((List Int) × Int × Int) → Option Res) : Option Res :=
    bif (decide (x.2.2 < (x.1.length : Int))) then
      bif (decide (x.2.2 < (4000 : Int))) then
        spec_l01New_j6000001 (x.1, x.2.1, x.2.2) (fun z2 =>
          k (.inl (z2.1, z2.2.1, z2.2.2)))
      else
        k (.inr (x.1, x.2.1, x.2.2))
    else
      k (.inr (x.1, x.2.1, x.2.2))

theorem spec_l01New_bp0 (x : ((List Int) × Int × Int)) : Par (spec_l01New_b0 x) := by
  unfold spec_l01New_b0
  exact (par_bif (par_bif ((spec_l01New_jp6000001 (x.1, x.2.1, x.2.2)).bind fun z2 => (par_ret _)) (par_ret _)) (par_ret _))

def spec_l01New_d (a0 : (List Int)) (k : ((List Int) × Int × Int) → Option Res) : Option Res :=
  loopK spec_l01New_b0 Fuel (a0, (IntKind.wrap .i64 ((77601 : Int) + (a0.length : Int))), (0 : Int)) (fun z1 =>
    k (z1.1, (0 : Int), z1.2.1))

theorem spec_l01New_h : ∃ g : (List Int) → (((List Int) × Int × Int) → Option Res) → Option Res, g = spec_l01New_d := ⟨_, rfl⟩
def spec_l01New_k : (List Int) → (((List Int) × Int × Int) → Option Res) → Option Res := Classical.choose spec_l01New_h
theorem spec_l01New_e : spec_l01New_k = spec_l01New_d := Classical.choose_spec spec_l01New_h

theorem spec_l01New_p (a0 : (List Int)) : Par (spec_l01New_k a0) := by
  rw [spec_l01New_e]
  unfold spec_l01New_d
  exact ((par_loop spec_l01New_bp0 Fuel (a0, (IntKind.wrap .i64 ((77601 : Int) + (a0.length : Int))), (0 : Int))).bind fun z1 => (par_ret _))

def spec_l01Byte_d (a0 : (List Int)) (a1 : Int) (a2 : Int) (k : (Int × (List Int) × Int × Int) → Option Res) : Option Res :=
  bif (decide (a1 < (a0.length : Int))) then
    if 0 ≤ a1 ∧ a1 < (a0.length : Int) then
      k ((IntKind.wrap .i64 (BitVec.ofInt (IntKind.bits .i64) (IntKind.wrap .i64 ((IntKind.wrap .i64 (BitVec.ofInt (IntKind.bits .i64) (IntKind.wrap .i64 (BitVec.ofInt (IntKind.bits .i64) ((IntKind.wrap .i64 ((IntKind.wrap .i64 (a2 * (6364136223846793005 : Int))) + (1442695040888963407 : Int))).fdiv (2 ^ (min (33 : Int).toNat (IntKind.bits .i64)))) ^^^ BitVec.ofInt (IntKind.bits .i64) ((IntKind.wrap .i64 ((IntKind.wrap .i64 (a2 * (6364136223846793005 : Int))) + (1442695040888963407 : Int))).fdiv (2 ^ (min (45 : Int).toNat (IntKind.bits .i64))))).toNat) &&& BitVec.ofInt (IntKind.bits .i64) (255 : Int)).toNat) + (IntKind.wrap .i64 (rd (Ty.zero (.int .u8)) a0 a1)))) &&& BitVec.ofInt (IntKind.bits .i64) (255 : Int)).toNat), a0, (IntKind.wrap .i64 (a1 + (1 : Int))), (IntKind.wrap .i64 ((IntKind.wrap .i64 (a2 * (6364136223846793005 : Int))) + (1442695040888963407 : Int))))
    else none
  else
    k ((IntKind.wrap .i64 (BitVec.ofInt (IntKind.bits .i64) (IntKind.wrap .i64 (BitVec.ofInt (IntKind.bits .i64) ((IntKind.wrap .i64 ((IntKind.wrap .i64 (a2 * (6364136223846793005 : Int))) + (1442695040888963407 : Int))).fdiv (2 ^ (min (33 : Int).toNat (IntKind.bits .i64)))) ^^^ BitVec.ofInt (IntKind.bits .i64) ((IntKind.wrap .i64 ((IntKind.wrap .i64 (a2 * (6364136223846793005 : Int))) + (1442695040888963407 : Int))).fdiv (2 ^ (min (45 : Int).toNat (IntKind.bits .i64))))).toNat) &&& BitVec.ofInt (IntKind.bits .i64) (255 : Int)).toNat), a0, a1, (IntKind.wrap .i64 ((IntKind.wrap .i64 (a2 * (6364136223846793005 : Int))) + (1442695040888963407 : Int))))

theorem spec_l01Byte_h : ∃ g : (List Int) → Int → Int → ((Int × (List Int) × Int × Int) → Option Res) → Option Res, g = spec_l01Byte_d := ⟨_, rfl⟩
def spec_l01Byte_k : (List Int) → Int → Int → ((Int × (List Int) × Int × Int) → Option Res) → Option Res := Classical.choose spec_l01Byte_h
theorem spec_l01Byte_e : spec_l01Byte_k = spec_l01Byte_d := Classical.choose_spec spec_l01Byte_h

theorem spec_l01Byte_p (a0 : (List Int)) (a1 : Int) (a2 : Int) : Par (spec_l01Byte_k a0 a1 a2) := by
  rw [spec_l01Byte_e]
  unfold spec_l01Byte_d
  exact (par_bif (par_ite (c := 0 ≤ a1 ∧ a1 < (a0.length : Int)) (par_ret _) par_none) (par_ret _))

def spec_l01Below_d (a0 : Int) (a1 : (List Int)) (a2 : Int) (a3 : Int) (k : (Int × (List Int) × Int × Int) → Option Res) : Option Res :=
  bif (decide (a0 ≤ (0 : Int))) then
    k ((0 : Int), a1, a2, a3)
  else
    bif (decide (a0 ≤ (256 : Int))) then
      spec_l01Byte_k a1 a2 a3 (fun y1 =>
        if a0 = 0 then none else
          k ((y1.1.tmod a0), y1.2.1, y1.2.2.1, y1.2.2.2))
    else
      spec_l01Byte_k a1 a2 a3 (fun y2 =>
        spec_l01Byte_k y2.2.1 y2.2.2.1 y2.2.2.2 (fun y3 =>
          spec_l01Byte_k y3.2.1 y3.2.2.1 y3.2.2.2 (fun y4 =>
            spec_l01Byte_k y4.2.1 y4.2.2.1 y4.2.2.2 (fun y5 =>
              if a0 = 0 then none else
                k (((IntKind.wrap .i64 ((IntKind.wrap .i64 ((IntKind.wrap .i64 ((IntKind.wrap .i64 (y2.1 * (16777216 : Int))) + (IntKind.wrap .i64 (y3.1 * (65536 : Int))))) + (IntKind.wrap .i64 (y4.1 * (256 : Int))))) + y5.1)).tmod a0), y5.2.1, y5.2.2.1, y5.2.2.2)))))

theorem spec_l01Below_h : ∃ g : Int → (List Int) → Int → Int → ((Int × (List Int) × Int × Int) → Option Res) → Option Res, g = spec_l01Below_d := ⟨_, rfl⟩
def spec_l01Below_k : Int → (List Int) → Int → Int → ((Int × (List Int) × Int × Int) → Option Res) → Option Res := Classical.choose spec_l01Below_h
theorem spec_l01Below_e : spec_l01Below_k = spec_l01Below_d := Classical.choose_spec spec_l01Below_h

theorem spec_l01Below_p (a0 : Int) (a1 : (List Int)) (a2 : Int) (a3 : Int) : Par (spec_l01Below_k a0 a1 a2 a3) := by
  rw [spec_l01Below_e]
  unfold spec_l01Below_d
  exact (par_bif (par_ret _) (par_bif ((spec_l01Byte_p a1 a2 a3).bind fun y1 => (par_ite (c := a0 = 0) par_none (par_ret _))) ((spec_l01Byte_p a1 a2 a3).bind fun y2 => ((spec_l01Byte_p y2.2.1 y2.2.2.1 y2.2.2.2).bind fun y3 => ((spec_l01Byte_p y3.2.1 y3.2.2.1 y3.2.2.2).bind fun y4 => ((spec_l01Byte_p y4.2.1 y4.2.2.1 y4.2.2.2).bind fun y5 => (par_ite (c := a0 = 0) par_none (par_ret _))))))))

def spec_l01Pick_d (a0 : (List ByteArray)) (a1 : (List Int)) (a2 : Int) (a3 : Int) (k : (ByteArray × (List Int) × Int × Int) → Option Res) : Option Res :=
  spec_l01Below_k (a0.length : Int) a1 a2 a3 (fun y1 =>
    if 0 ≤ y1.1 ∧ y1.1 < (a0.length : Int) then
      k ((rd (Ty.zero .str) a0 y1.1), y1.2.1, y1.2.2.1, y1.2.2.2)
    else none)

theorem spec_l01Pick_h : ∃ g : (List ByteArray) → (List Int) → Int → Int → ((ByteArray × (List Int) × Int × Int) → Option Res) → Option Res, g = spec_l01Pick_d := ⟨_, rfl⟩
def spec_l01Pick_k : (List ByteArray) → (List Int) → Int → Int → ((ByteArray × (List Int) × Int × Int) → Option Res) → Option Res := Classical.choose spec_l01Pick_h
theorem spec_l01Pick_e : spec_l01Pick_k = spec_l01Pick_d := Classical.choose_spec spec_l01Pick_h

theorem spec_l01Pick_p (a0 : (List ByteArray)) (a1 : (List Int)) (a2 : Int) (a3 : Int) : Par (spec_l01Pick_k a0 a1 a2 a3) := by
  rw [spec_l01Pick_e]
  unfold spec_l01Pick_d
  exact ((spec_l01Below_p (a0.length : Int) a1 a2 a3).bind fun y1 => (par_ite (c := 0 ≤ y1.1 ∧ y1.1 < (a0.length : Int)) (par_ret _) par_none))

def spec_l05Key_d (a0 : (List Int)) (a1 : Int) (a2 : Int) (k : (ByteArray × (List Int) × Int × Int) → Option Res) : Option Res :=
  spec_l01Pick_k [(⟨#[97]⟩ : ByteArray), (⟨#[98]⟩ : ByteArray), (⟨#[99]⟩ : ByteArray), (⟨#[100]⟩ : ByteArray), (⟨#[97, 98]⟩ : ByteArray)] a0 a1 a2 (fun y1 =>
    k (y1.1, y1.2.1, y1.2.2.1, y1.2.2.2))

theorem spec_l05Key_h : ∃ g : (List Int) → Int → Int → ((ByteArray × (List Int) × Int × Int) → Option Res) → Option Res, g = spec_l05Key_d := ⟨_, rfl⟩
def spec_l05Key_k : (List Int) → Int → Int → ((ByteArray × (List Int) × Int × Int) → Option Res) → Option Res := Classical.choose spec_l05Key_h
theorem spec_l05Key_e : spec_l05Key_k = spec_l05Key_d := Classical.choose_spec spec_l05Key_h

theorem spec_l05Key_p (a0 : (List Int)) (a1 : Int) (a2 : Int) : Par (spec_l05Key_k a0 a1 a2) := by
  rw [spec_l05Key_e]
  unfold spec_l05Key_d
  exact ((spec_l01Pick_p [(⟨#[97]⟩ : ByteArray), (⟨#[98]⟩ : ByteArray), (⟨#[99]⟩ : ByteArray), (⟨#[100]⟩ : ByteArray), (⟨#[97, 98]⟩ : ByteArray)] a0 a1 a2).bind fun y1 => (par_ret _))

def spec_l01Once_d (a0 : Int) (a1 : (List Int)) (a2 : Int) (a3 : Int) (k : (Bool × (List Int) × Int × Int) → Option Res) : Option Res :=
  spec_l01Below_k a0 a1 a2 a3 (fun y1 =>
    k ((y1.1 == (0 : Int)), y1.2.1, y1.2.2.1, y1.2.2.2))

theorem spec_l01Once_h : ∃ g : Int → (List Int) → Int → Int → ((Bool × (List Int) × Int × Int) → Option Res) → Option Res, g = spec_l01Once_d := ⟨_, rfl⟩
def spec_l01Once_k : Int → (List Int) → Int → Int → ((Bool × (List Int) × Int × Int) → Option Res) → Option Res := Classical.choose spec_l01Once_h
theorem spec_l01Once_e : spec_l01Once_k = spec_l01Once_d := Classical.choose_spec spec_l01Once_h

theorem spec_l01Once_p (a0 : Int) (a1 : (List Int)) (a2 : Int) (a3 : Int) : Par (spec_l01Once_k a0 a1 a2 a3) := by
  rw [spec_l01Once_e]
  unfold spec_l01Once_d
  exact ((spec_l01Below_p a0 a1 a2 a3).bind fun y1 => (par_ret _))

def spec_l05Range_d (a0 : (List Int)) (a1 : Int) (a2 : Int) (k : (ByteArray × ByteArray × (List Int) × Int × Int) → Option Res) : Option Res :=
  spec_l05Key_k a0 a1 a2 (fun y1 =>
    spec_l01Once_k (2 : Int) y1.2.1 y1.2.2.1 y1.2.2.2 (fun y2 =>
      bif y2.1 then
        k (y1.1, y1.1, y2.2.1, y2.2.2.1, y2.2.2.2)
      else
        spec_l05Key_k y2.2.1 y2.2.2.1 y2.2.2.2 (fun y3 =>
          bif (strLess y3.1 y1.1) then
            k (y3.1, y1.1, y3.2.1, y3.2.2.1, y3.2.2.2)
          else
            k (y1.1, y3.1, y3.2.1, y3.2.2.1, y3.2.2.2))))

theorem spec_l05Range_h : ∃ g : (List Int) → Int → Int → ((ByteArray × ByteArray × (List Int) × Int × Int) → Option Res) → Option Res, g = spec_l05Range_d := ⟨_, rfl⟩
def spec_l05Range_k : (List Int) → Int → Int → ((ByteArray × ByteArray × (List Int) × Int × Int) → Option Res) → Option Res := Classical.choose spec_l05Range_h
theorem spec_l05Range_e : spec_l05Range_k = spec_l05Range_d := Classical.choose_spec spec_l05Range_h

theorem spec_l05Range_p (a0 : (List Int)) (a1 : Int) (a2 : Int) : Par (spec_l05Range_k a0 a1 a2) := by
  rw [spec_l05Range_e]
  unfold spec_l05Range_d
  exact ((spec_l05Key_p a0 a1 a2).bind fun y1 => ((spec_l01Once_p (2 : Int) y1.2.1 y1.2.2.1 y1.2.2.2).bind fun y2 => (par_bif (par_ret _) ((spec_l05Key_p y2.2.1 y2.2.2.1 y2.2.2.2).bind fun y3 => (par_bif (par_ret _) (par_ret _))))))

def spec_l05Ranges_b0 (x : (Int × (List Int) × Int × Int × (List dRange))) (k : (Int × (List Int) × Int × Int × (List dRange)) ⊕ (Int × (List Int) × Int × Int × (List dRange)) → Option Res) : Option Res :=
    spec_l01Below_k (4 : Int) x.2.1 x.2.2.1 x.2.2.2.1 (fun y2 =>
      bif (decide (x.1 < y2.1)) then
        spec_l05Range_k y2.2.1 y2.2.2.1 y2.2.2.2 (fun y3 =>
          if x.2.2.2.2.length + [(y3.1, y3.2.1)].length ≤ VE.maxLen then
            k (.inl ((IntKind.wrap .i64 (x.1 + (1 : Int))), y3.2.2.1, y3.2.2.2.1, y3.2.2.2.2, (x.2.2.2.2 ++ [(y3.1, y3.2.1)])))
          else none)
      else
        k (.inr (x.1, y2.2.1, y2.2.2.1, y2.2.2.2, x.2.2.2.2)))

theorem spec_l05Ranges_bp0 (x : (Int × (List Int) × Int × Int × (List dRange))) : Par (spec_l05Ranges_b0 x) := by
  unfold spec_l05Ranges_b0
  exact ((spec_l01Below_p (4 : Int) x.2.1 x.2.2.1 x.2.2.2.1).bind fun y2 => (par_bif ((spec_l05Range_p y2.2.1 y2.2.2.1 y2.2.2.2).bind fun y3 => (par_ite (c := x.2.2.2.2.length + [(y3.1, y3.2.1)].length ≤ VE.maxLen) (par_ret _) par_none)) (par_ret _)))

def spec_l05Ranges_d (a0 : (List Int)) (a1 : Int) (a2 : Int) (k : ((List Int) × Int × Int × (List dRange)) → Option Res) : Option Res :=
  loopK spec_l05Ranges_b0 Fuel ((0 : Int), a0, a1, a2, ([] : List dRange)) (fun z1 =>
    k (z1.2.1, z1.2.2.1, z1.2.2.2.1, z1.2.2.2.2))

theorem spec_l05Ranges_h : ∃ g : (List Int) → Int → Int → (((List Int) × Int × Int × (List dRange)) → Option Res) → Option Res, g = spec_l05Ranges_d := ⟨_, rfl⟩
def spec_l05Ranges_k : (List Int) → Int → Int → (((List Int) × Int × Int × (List dRange)) → Option Res) → Option Res := Classical.choose spec_l05Ranges_h
theorem spec_l05Ranges_e : spec_l05Ranges_k = spec_l05Ranges_d := Classical.choose_spec spec_l05Ranges_h

theorem spec_l05Ranges_p (a0 : (List Int)) (a1 : Int) (a2 : Int) : Par (spec_l05Ranges_k a0 a1 a2) := by
  rw [spec_l05Ranges_e]
  unfold spec_l05Ranges_d
  exact ((par_loop spec_l05Ranges_bp0 Fuel ((0 : Int), a0, a1, a2, ([] : List dRange))).bind fun z1 => (par_ret _))

def spec_l05Write_d (a0 : (List Int)) (a1 : Int) (a2 : Int) (k : (ByteArray × ByteArray × Bool × (List Int) × Int × Int) → Option Res) : Option Res :=
  spec_l05Key_k a0 a1 a2 (fun y1 =>
    spec_l01Pick_k [(⟨#[111, 110, 101]⟩ : ByteArray), (⟨#[116, 119, 111]⟩ : ByteArray), (⟨#[]⟩ : ByteArray), (⟨#[120, 0]⟩ : ByteArray)] y1.2.1 y1.2.2.1 y1.2.2.2 (fun y2 =>
      spec_l01Once_k (5 : Int) y2.2.1 y2.2.2.1 y2.2.2.2 (fun y3 =>
        bif y3.1 then
          k (y1.1, (⟨#[]⟩ : ByteArray), true, y3.2.1, y3.2.2.1, y3.2.2.2)
        else
          k (y1.1, y2.1, false, y3.2.1, y3.2.2.1, y3.2.2.2))))

theorem spec_l05Write_h : ∃ g : (List Int) → Int → Int → ((ByteArray × ByteArray × Bool × (List Int) × Int × Int) → Option Res) → Option Res, g = spec_l05Write_d := ⟨_, rfl⟩
def spec_l05Write_k : (List Int) → Int → Int → ((ByteArray × ByteArray × Bool × (List Int) × Int × Int) → Option Res) → Option Res := Classical.choose spec_l05Write_h
theorem spec_l05Write_e : spec_l05Write_k = spec_l05Write_d := Classical.choose_spec spec_l05Write_h

theorem spec_l05Write_p (a0 : (List Int)) (a1 : Int) (a2 : Int) : Par (spec_l05Write_k a0 a1 a2) := by
  rw [spec_l05Write_e]
  unfold spec_l05Write_d
  exact ((spec_l05Key_p a0 a1 a2).bind fun y1 => ((spec_l01Pick_p [(⟨#[111, 110, 101]⟩ : ByteArray), (⟨#[116, 119, 111]⟩ : ByteArray), (⟨#[]⟩ : ByteArray), (⟨#[120, 0]⟩ : ByteArray)] y1.2.1 y1.2.2.1 y1.2.2.2).bind fun y2 => ((spec_l01Once_p (5 : Int) y2.2.1 y2.2.2.1 y2.2.2.2).bind fun y3 => (par_bif (par_ret _) (par_ret _)))))

def spec_PutWrite_b0 (x : ((List dWrite) × Int × ByteArray × ByteArray × Bool × (List dWrite))) (k : ((List dWrite) × Int × ByteArray × ByteArray × Bool × (List dWrite)) ⊕ ((List dWrite) × Int × ByteArray × ByteArray × Bool × (List dWrite)) → Option Res) : Option Res :=
    bif (decide (x.2.1 < (x.1.length : Int))) then
      if 0 ≤ x.2.1 ∧ x.2.1 < (x.1.length : Int) then
        bif (strLess ((rd (Ty.zero tWrite) x.1 x.2.1).1) x.2.2.1) then
          if 0 ≤ x.2.1 ∧ x.2.1 < (x.1.length : Int) then
            if x.2.2.2.2.2.length + [(rd (Ty.zero tWrite) x.1 x.2.1)].length ≤ VE.maxLen then
              k (.inl (x.1, (IntKind.wrap .i64 (x.2.1 + (1 : Int))), x.2.2.1, x.2.2.2.1, x.2.2.2.2.1, (x.2.2.2.2.2 ++ [(rd (Ty.zero tWrite) x.1 x.2.1)])))
            else none
          else none
        else
          k (.inl (x.1, (IntKind.wrap .i64 (x.2.1 + (1 : Int))), x.2.2.1, x.2.2.2.1, x.2.2.2.2.1, x.2.2.2.2.2))
      else none
    else
      k (.inr (x.1, x.2.1, x.2.2.1, x.2.2.2.1, x.2.2.2.2.1, x.2.2.2.2.2))

theorem spec_PutWrite_bp0 (x : ((List dWrite) × Int × ByteArray × ByteArray × Bool × (List dWrite))) : Par (spec_PutWrite_b0 x) := by
  unfold spec_PutWrite_b0
  exact (par_bif (par_ite (c := 0 ≤ x.2.1 ∧ x.2.1 < (x.1.length : Int)) (par_bif (par_ite (c := 0 ≤ x.2.1 ∧ x.2.1 < (x.1.length : Int)) (par_ite (c := x.2.2.2.2.2.length + [(rd (Ty.zero tWrite) x.1 x.2.1)].length ≤ VE.maxLen) (par_ret _) par_none) par_none) (par_ret _)) par_none) (par_ret _))

def spec_PutWrite_b2 (x : ((List dWrite) × Int × ByteArray × ByteArray × Bool × (List dWrite))) (k : ((List dWrite) × Int × ByteArray × ByteArray × Bool × (List dWrite)) ⊕ ((List dWrite) × Int × ByteArray × ByteArray × Bool × (List dWrite)) → Option Res) : Option Res :=
    bif (decide (x.2.1 < (x.1.length : Int))) then
      if 0 ≤ x.2.1 ∧ x.2.1 < (x.1.length : Int) then
        bif (!((strLess ((rd (Ty.zero tWrite) x.1 x.2.1).1) x.2.2.1) || (strEq ((rd (Ty.zero tWrite) x.1 x.2.1).1) x.2.2.1))) then
          if 0 ≤ x.2.1 ∧ x.2.1 < (x.1.length : Int) then
            if x.2.2.2.2.2.length + [(rd (Ty.zero tWrite) x.1 x.2.1)].length ≤ VE.maxLen then
              k (.inl (x.1, (IntKind.wrap .i64 (x.2.1 + (1 : Int))), x.2.2.1, x.2.2.2.1, x.2.2.2.2.1, (x.2.2.2.2.2 ++ [(rd (Ty.zero tWrite) x.1 x.2.1)])))
            else none
          else none
        else
          k (.inl (x.1, (IntKind.wrap .i64 (x.2.1 + (1 : Int))), x.2.2.1, x.2.2.2.1, x.2.2.2.2.1, x.2.2.2.2.2))
      else none
    else
      k (.inr (x.1, x.2.1, x.2.2.1, x.2.2.2.1, x.2.2.2.2.1, x.2.2.2.2.2))

theorem spec_PutWrite_bp2 (x : ((List dWrite) × Int × ByteArray × ByteArray × Bool × (List dWrite))) : Par (spec_PutWrite_b2 x) := by
  unfold spec_PutWrite_b2
  exact (par_bif (par_ite (c := 0 ≤ x.2.1 ∧ x.2.1 < (x.1.length : Int)) (par_bif (par_ite (c := 0 ≤ x.2.1 ∧ x.2.1 < (x.1.length : Int)) (par_ite (c := x.2.2.2.2.2.length + [(rd (Ty.zero tWrite) x.1 x.2.1)].length ≤ VE.maxLen) (par_ret _) par_none) par_none) (par_ret _)) par_none) (par_ret _))

def spec_PutWrite_d (a0 : (List dWrite)) (a1 : dWrite) (k : (List dWrite) → Option Res) : Option Res :=
  loopK spec_PutWrite_b0 Fuel (a0, (0 : Int), a1.1, a1.2.1, a1.2.2, ([] : List dWrite)) (fun z1 =>
    if z1.2.2.2.2.2.length + [(z1.2.2.1, (z1.2.2.2.1, z1.2.2.2.2.1))].length ≤ VE.maxLen then
      loopK spec_PutWrite_b2 Fuel (z1.1, (0 : Int), z1.2.2.1, z1.2.2.2.1, z1.2.2.2.2.1, (z1.2.2.2.2.2 ++ [(z1.2.2.1, (z1.2.2.2.1, z1.2.2.2.2.1))])) (fun z2 =>
        k z2.2.2.2.2.2)
    else none)

theorem spec_PutWrite_h : ∃ g : (List dWrite) → dWrite → ((List dWrite) → Option Res) → Option Res, g = spec_PutWrite_d := ⟨_, rfl⟩
def spec_PutWrite_k : (List dWrite) → dWrite → ((List dWrite) → Option Res) → Option Res := Classical.choose spec_PutWrite_h
theorem spec_PutWrite_e : spec_PutWrite_k = spec_PutWrite_d := Classical.choose_spec spec_PutWrite_h

theorem spec_PutWrite_p (a0 : (List dWrite)) (a1 : dWrite) : Par (spec_PutWrite_k a0 a1) := by
  rw [spec_PutWrite_e]
  unfold spec_PutWrite_d
  exact ((par_loop spec_PutWrite_bp0 Fuel (a0, (0 : Int), a1.1, a1.2.1, a1.2.2, ([] : List dWrite))).bind fun z1 => (par_ite (c := z1.2.2.2.2.2.length + [(z1.2.2.1, (z1.2.2.2.1, z1.2.2.2.2.1))].length ≤ VE.maxLen) ((par_loop spec_PutWrite_bp2 Fuel (z1.1, (0 : Int), z1.2.2.1, z1.2.2.2.1, z1.2.2.2.2.1, (z1.2.2.2.2.2 ++ [(z1.2.2.1, (z1.2.2.2.1, z1.2.2.2.2.1))]))).bind fun z2 => (par_ret _)) par_none))

def spec_l05Writes_b0 (x : (Int × (List Int) × Int × Int × (List dWrite))) (k : (Int × (List Int) × Int × Int × (List dWrite)) ⊕ (Int × (List Int) × Int × Int × (List dWrite)) → Option Res) : Option Res :=
    spec_l01Below_k (4 : Int) x.2.1 x.2.2.1 x.2.2.2.1 (fun y2 =>
      bif (decide (x.1 < y2.1)) then
        spec_l05Write_k y2.2.1 y2.2.2.1 y2.2.2.2 (fun y3 =>
          spec_PutWrite_k x.2.2.2.2 (y3.1, (y3.2.1, y3.2.2.1)) (fun y4 =>
            k (.inl ((IntKind.wrap .i64 (x.1 + (1 : Int))), y3.2.2.2.1, y3.2.2.2.2.1, y3.2.2.2.2.2, y4))))
      else
        k (.inr (x.1, y2.2.1, y2.2.2.1, y2.2.2.2, x.2.2.2.2)))

theorem spec_l05Writes_bp0 (x : (Int × (List Int) × Int × Int × (List dWrite))) : Par (spec_l05Writes_b0 x) := by
  unfold spec_l05Writes_b0
  exact ((spec_l01Below_p (4 : Int) x.2.1 x.2.2.1 x.2.2.2.1).bind fun y2 => (par_bif ((spec_l05Write_p y2.2.1 y2.2.2.1 y2.2.2.2).bind fun y3 => ((spec_PutWrite_p x.2.2.2.2 (y3.1, (y3.2.1, y3.2.2.1))).bind fun y4 => (par_ret _))) (par_ret _)))

def spec_l05Writes_d (a0 : (List Int)) (a1 : Int) (a2 : Int) (k : ((List Int) × Int × Int × (List dWrite)) → Option Res) : Option Res :=
  loopK spec_l05Writes_b0 Fuel ((0 : Int), a0, a1, a2, ([] : List dWrite)) (fun z1 =>
    k (z1.2.1, z1.2.2.1, z1.2.2.2.1, z1.2.2.2.2))

theorem spec_l05Writes_h : ∃ g : (List Int) → Int → Int → (((List Int) × Int × Int × (List dWrite)) → Option Res) → Option Res, g = spec_l05Writes_d := ⟨_, rfl⟩
def spec_l05Writes_k : (List Int) → Int → Int → (((List Int) × Int × Int × (List dWrite)) → Option Res) → Option Res := Classical.choose spec_l05Writes_h
theorem spec_l05Writes_e : spec_l05Writes_k = spec_l05Writes_d := Classical.choose_spec spec_l05Writes_h

theorem spec_l05Writes_p (a0 : (List Int)) (a1 : Int) (a2 : Int) : Par (spec_l05Writes_k a0 a1 a2) := by
  rw [spec_l05Writes_e]
  unfold spec_l05Writes_d
  exact ((par_loop spec_l05Writes_bp0 Fuel ((0 : Int), a0, a1, a2, ([] : List dWrite))).bind fun z1 => (par_ret _))

def spec_l07Txn_d (a0 : (List Int)) (a1 : Int) (a2 : Int) (k : (Int × Int × Int × Int × Bool × ByteArray × (List Int) × Int × Int × (List dRange) × (List dWrite)) → Option Res) : Option Res :=
  spec_l01Below_k (6 : Int) a0 a1 a2 (fun y1 =>
    spec_l01Below_k (3 : Int) y1.2.1 y1.2.2.1 y1.2.2.2 (fun y2 =>
      spec_l01Below_k (6 : Int) y2.2.1 y2.2.2.1 y2.2.2.2 (fun y3 =>
        spec_l05Ranges_k y3.2.1 y3.2.2.1 y3.2.2.2 (fun y4 =>
          spec_l05Writes_k y4.1 y4.2.1 y4.2.2.1 (fun y5 =>
            bif ((IntKind.wrap .i64 ((1 : Int) + y2.1)) == (2 : Int)) then
              spec_l05Key_k y5.1 y5.2.1 y5.2.2.1 (fun y6 =>
                spec_l01Once_k (2 : Int) y6.2.1 y6.2.2.1 y6.2.2.2 (fun y7 =>
                  k ((IntKind.wrap .i64 ((1 : Int) + y1.1)), (IntKind.wrap .i64 ((1 : Int) + y2.1)), y3.1, (0 : Int), y7.1, y6.1, y7.2.1, y7.2.2.1, y7.2.2.2, y4.2.2.2, y5.2.2.2)))
            else
              bif ((IntKind.wrap .i64 ((1 : Int) + y2.1)) == (3 : Int)) then
                spec_l01Below_k (4 : Int) y5.1 y5.2.1 y5.2.2.1 (fun y8 =>
                  spec_l01Once_k (2 : Int) y8.2.1 y8.2.2.1 y8.2.2.2 (fun y9 =>
                    k ((IntKind.wrap .i64 ((1 : Int) + y1.1)), (IntKind.wrap .i64 ((1 : Int) + y2.1)), y3.1, (IntKind.wrap .i64 ((IntKind.wrap .i64 (y3.1 + (1 : Int))) + y8.1)), y9.1, (⟨#[]⟩ : ByteArray), y9.2.1, y9.2.2.1, y9.2.2.2, y4.2.2.2, y5.2.2.2)))
              else
                k ((IntKind.wrap .i64 ((1 : Int) + y1.1)), (IntKind.wrap .i64 ((1 : Int) + y2.1)), y3.1, (0 : Int), false, (⟨#[]⟩ : ByteArray), y5.1, y5.2.1, y5.2.2.1, y4.2.2.2, y5.2.2.2))))))

theorem spec_l07Txn_h : ∃ g : (List Int) → Int → Int → ((Int × Int × Int × Int × Bool × ByteArray × (List Int) × Int × Int × (List dRange) × (List dWrite)) → Option Res) → Option Res, g = spec_l07Txn_d := ⟨_, rfl⟩
def spec_l07Txn_k : (List Int) → Int → Int → ((Int × Int × Int × Int × Bool × ByteArray × (List Int) × Int × Int × (List dRange) × (List dWrite)) → Option Res) → Option Res := Classical.choose spec_l07Txn_h
theorem spec_l07Txn_e : spec_l07Txn_k = spec_l07Txn_d := Classical.choose_spec spec_l07Txn_h

theorem spec_l07Txn_p (a0 : (List Int)) (a1 : Int) (a2 : Int) : Par (spec_l07Txn_k a0 a1 a2) := by
  rw [spec_l07Txn_e]
  unfold spec_l07Txn_d
  exact ((spec_l01Below_p (6 : Int) a0 a1 a2).bind fun y1 => ((spec_l01Below_p (3 : Int) y1.2.1 y1.2.2.1 y1.2.2.2).bind fun y2 => ((spec_l01Below_p (6 : Int) y2.2.1 y2.2.2.1 y2.2.2.2).bind fun y3 => ((spec_l05Ranges_p y3.2.1 y3.2.2.1 y3.2.2.2).bind fun y4 => ((spec_l05Writes_p y4.1 y4.2.1 y4.2.2.1).bind fun y5 => (par_bif ((spec_l05Key_p y5.1 y5.2.1 y5.2.2.1).bind fun y6 => ((spec_l01Once_p (2 : Int) y6.2.1 y6.2.2.1 y6.2.2.2).bind fun y7 => (par_ret _))) (par_bif ((spec_l01Below_p (4 : Int) y5.1 y5.2.1 y5.2.2.1).bind fun y8 => ((spec_l01Once_p (2 : Int) y8.2.1 y8.2.2.1 y8.2.2.2).bind fun y9 => (par_ret _))) (par_ret _))))))))

def spec_DrawTxns_d (a0 : (List Int)) (k : (Int × Int × Int × Int × Bool × ByteArray × Int × Int × Int × Int × Bool × ByteArray × (List dRange) × (List dWrite) × (List dRange) × (List dWrite)) → Option Res) : Option Res :=
  spec_l01New_k a0 (fun y1 =>
    spec_l07Txn_k y1.1 y1.2.1 y1.2.2 (fun y2 =>
      spec_l07Txn_k y2.2.2.2.2.2.2.1 y2.2.2.2.2.2.2.2.1 y2.2.2.2.2.2.2.2.2.1 (fun y3 =>
        k (y2.1, y2.2.1, y2.2.2.1, y2.2.2.2.1, y2.2.2.2.2.1, y2.2.2.2.2.2.1, (IntKind.wrap .i64 (y2.1 + (1 : Int))), y3.2.1, y3.2.2.1, y3.2.2.2.1, y3.2.2.2.2.1, y3.2.2.2.2.2.1, y2.2.2.2.2.2.2.2.2.2.1, y2.2.2.2.2.2.2.2.2.2.2, y3.2.2.2.2.2.2.2.2.2.1, y3.2.2.2.2.2.2.2.2.2.2))))

theorem spec_DrawTxns_h : ∃ g : (List Int) → ((Int × Int × Int × Int × Bool × ByteArray × Int × Int × Int × Int × Bool × ByteArray × (List dRange) × (List dWrite) × (List dRange) × (List dWrite)) → Option Res) → Option Res, g = spec_DrawTxns_d := ⟨_, rfl⟩
def spec_DrawTxns_k : (List Int) → ((Int × Int × Int × Int × Bool × ByteArray × Int × Int × Int × Int × Bool × ByteArray × (List dRange) × (List dWrite) × (List dRange) × (List dWrite)) → Option Res) → Option Res := Classical.choose spec_DrawTxns_h
theorem spec_DrawTxns_e : spec_DrawTxns_k = spec_DrawTxns_d := Classical.choose_spec spec_DrawTxns_h

theorem spec_DrawTxns_p (a0 : (List Int)) : Par (spec_DrawTxns_k a0) := by
  rw [spec_DrawTxns_e]
  unfold spec_DrawTxns_d
  exact ((spec_l01New_p a0).bind fun y1 => ((spec_l07Txn_p y1.1 y1.2.1 y1.2.2).bind fun y2 => ((spec_l07Txn_p y2.2.2.2.2.2.2.1 y2.2.2.2.2.2.2.2.1 y2.2.2.2.2.2.2.2.2.1).bind fun y3 => (par_ret _))))

def impl_Beside_1_d (a0 : dTxn) (a1 : dTxn) (k : Bool → Option Res) : Option Res :=
  bif (a0.2.1 == (3 : Int)) then
    k (decide (a0.2.2.2.1 ≤ a1.2.2.1))
  else
    k false

theorem impl_Beside_1_h : ∃ g : dTxn → dTxn → (Bool → Option Res) → Option Res, g = impl_Beside_1_d := ⟨_, rfl⟩
def impl_Beside_1_k : dTxn → dTxn → (Bool → Option Res) → Option Res := Classical.choose impl_Beside_1_h
theorem impl_Beside_1_e : impl_Beside_1_k = impl_Beside_1_d := Classical.choose_spec impl_Beside_1_h

theorem impl_Beside_1_p (a0 : dTxn) (a1 : dTxn) : Par (impl_Beside_1_k a0 a1) := by
  rw [impl_Beside_1_e]
  unfold impl_Beside_1_d
  exact (par_bif (par_ret _) (par_ret _))

def impl_Beside_d (a0 : dTxn) (a1 : dTxn) (k : Bool → Option Res) : Option Res :=
  bif (a0.1 != a1.1) then
    impl_Beside_1_k a0 a1 (fun y1 =>
      bif (!y1) then
        impl_Beside_1_k a1 a0 (fun y2 =>
          k (!y2))
      else
        k false)
  else
    k false

theorem impl_Beside_h : ∃ g : dTxn → dTxn → (Bool → Option Res) → Option Res, g = impl_Beside_d := ⟨_, rfl⟩
def impl_Beside_k : dTxn → dTxn → (Bool → Option Res) → Option Res := Classical.choose impl_Beside_h
theorem impl_Beside_e : impl_Beside_k = impl_Beside_d := Classical.choose_spec impl_Beside_h

theorem impl_Beside_p (a0 : dTxn) (a1 : dTxn) : Par (impl_Beside_k a0 a1) := by
  rw [impl_Beside_e]
  unfold impl_Beside_d
  exact (par_bif ((impl_Beside_1_p a0 a1).bind fun y1 => (par_bif ((impl_Beside_1_p a1 a0).bind fun y2 => (par_ret _)) (par_ret _))) (par_ret _))

def spec_l07Copy_d (a0 : dTxn) (k : (Int × Int × Int × Int × Bool × ByteArray × (List dRange) × (List dWrite)) → Option Res) : Option Res :=
  if ([] : List dRange).length + a0.2.2.2.2.1.length ≤ VE.maxLen then
    if ([] : List dWrite).length + a0.2.2.2.2.2.1.length ≤ VE.maxLen then
      k (a0.1, a0.2.1, a0.2.2.1, a0.2.2.2.1, a0.2.2.2.2.2.2.1, a0.2.2.2.2.2.2.2, (([] : List dRange) ++ a0.2.2.2.2.1), (([] : List dWrite) ++ a0.2.2.2.2.2.1))
    else none
  else none

theorem spec_l07Copy_h : ∃ g : dTxn → ((Int × Int × Int × Int × Bool × ByteArray × (List dRange) × (List dWrite)) → Option Res) → Option Res, g = spec_l07Copy_d := ⟨_, rfl⟩
def spec_l07Copy_k : dTxn → ((Int × Int × Int × Int × Bool × ByteArray × (List dRange) × (List dWrite)) → Option Res) → Option Res := Classical.choose spec_l07Copy_h
theorem spec_l07Copy_e : spec_l07Copy_k = spec_l07Copy_d := Classical.choose_spec spec_l07Copy_h

theorem spec_l07Copy_p (a0 : dTxn) : Par (spec_l07Copy_k a0) := by
  rw [spec_l07Copy_e]
  unfold spec_l07Copy_d
  exact (par_ite (c := ([] : List dRange).length + a0.2.2.2.2.1.length ≤ VE.maxLen) (par_ite (c := ([] : List dWrite).length + a0.2.2.2.2.2.1.length ≤ VE.maxLen) (par_ret _) par_none) par_none)

def spec_l01Long_b0 (x : (Int × Int × Int × (List Int))) (k : (Int × Int × Int × (List Int)) ⊕ (Int × Int × Int × (List Int)) → Option Res) : Option Res :=
    bif (decide (x.2.2.1 < x.1)) then
      if 0 ≤ x.2.2.1 ∧ x.2.2.1 < (x.2.2.2.length : Int) then
        k (.inl (x.1, x.2.1, (IntKind.wrap .i64 (x.2.2.1 + (1 : Int))), (x.2.2.2.set x.2.2.1.toNat x.2.1)))
      else none
    else
      k (.inr (x.1, x.2.1, x.2.2.1, x.2.2.2))

theorem spec_l01Long_bp0 (x : (Int × Int × Int × (List Int))) : Par (spec_l01Long_b0 x) := by
  unfold spec_l01Long_b0
  exact (par_bif (par_ite (c := 0 ≤ x.2.2.1 ∧ x.2.2.1 < (x.2.2.2.length : Int)) (par_ret _) par_none) (par_ret _))

def spec_l01Long_d (a0 : Int) (a1 : Int) (k : ByteArray → Option Res) : Option Res :=
  if 0 ≤ a0 ∧ a0 ≤ a0 ∧ a0 ≤ (VE.maxLen : Int) then
    loopK spec_l01Long_b0 Fuel (a0, a1, (0 : Int), (List.replicate a0.toNat (Ty.zero (.int .u8)))) (fun z1 =>
      k (bytesOf z1.2.2.2))
  else none

theorem spec_l01Long_h : ∃ g : Int → Int → (ByteArray → Option Res) → Option Res, g = spec_l01Long_d := ⟨_, rfl⟩
def spec_l01Long_k : Int → Int → (ByteArray → Option Res) → Option Res := Classical.choose spec_l01Long_h
theorem spec_l01Long_e : spec_l01Long_k = spec_l01Long_d := Classical.choose_spec spec_l01Long_h

theorem spec_l01Long_p (a0 : Int) (a1 : Int) : Par (spec_l01Long_k a0 a1) := by
  rw [spec_l01Long_e]
  unfold spec_l01Long_d
  exact (par_ite (c := 0 ≤ a0 ∧ a0 ≤ a0 ∧ a0 ≤ (VE.maxLen : Int)) ((par_loop spec_l01Long_bp0 Fuel (a0, a1, (0 : Int), (List.replicate a0.toNat (Ty.zero (.int .u8))))).bind fun z1 => (par_ret _)) par_none)

def spec_l05Any_d (a0 : (List Int)) (a1 : Int) (a2 : Int) (k : (ByteArray × ByteArray × Bool × (List Int) × Int × Int) → Option Res) : Option Res :=
  spec_l05Write_k a0 a1 a2 (fun y1 =>
    spec_l01Below_k (8 : Int) y1.2.2.2.1 y1.2.2.2.2.1 y1.2.2.2.2.2 (fun y2 =>
      bif (y2.1 == (0 : Int)) then
        spec_l01Pick_k [(⟨#[]⟩ : ByteArray), (⟨#[65]⟩ : ByteArray), (⟨#[97, 98, 99, 100]⟩ : ByteArray), (⟨#[97, 98, 99]⟩ : ByteArray)] y2.2.1 y2.2.2.1 y2.2.2.2 (fun y3 =>
          k (y3.1, y1.2.1, y1.2.2.1, y3.2.1, y3.2.2.1, y3.2.2.2))
      else
        bif (y2.1 == (1 : Int)) then
          spec_l01Below_k (2 : Int) y2.2.1 y2.2.2.1 y2.2.2.2 (fun y4 =>
            spec_l01Long_k (IntKind.wrap .i64 ((12 : Int) + y4.1)) (97 : Int) (fun y5 =>
              k (y1.1, y5, y1.2.2.1, y4.2.1, y4.2.2.1, y4.2.2.2)))
        else
          bif (y2.1 == (2 : Int)) then
            k (y1.1, y1.2.1, true, y2.2.1, y2.2.2.1, y2.2.2.2)
          else
            k (y1.1, y1.2.1, y1.2.2.1, y2.2.1, y2.2.2.1, y2.2.2.2)))

theorem spec_l05Any_h : ∃ g : (List Int) → Int → Int → ((ByteArray × ByteArray × Bool × (List Int) × Int × Int) → Option Res) → Option Res, g = spec_l05Any_d := ⟨_, rfl⟩
def spec_l05Any_k : (List Int) → Int → Int → ((ByteArray × ByteArray × Bool × (List Int) × Int × Int) → Option Res) → Option Res := Classical.choose spec_l05Any_h
theorem spec_l05Any_e : spec_l05Any_k = spec_l05Any_d := Classical.choose_spec spec_l05Any_h

theorem spec_l05Any_p (a0 : (List Int)) (a1 : Int) (a2 : Int) : Par (spec_l05Any_k a0 a1 a2) := by
  rw [spec_l05Any_e]
  unfold spec_l05Any_d
  exact ((spec_l05Write_p a0 a1 a2).bind fun y1 => ((spec_l01Below_p (8 : Int) y1.2.2.2.1 y1.2.2.2.2.1 y1.2.2.2.2.2).bind fun y2 => (par_bif ((spec_l01Pick_p [(⟨#[]⟩ : ByteArray), (⟨#[65]⟩ : ByteArray), (⟨#[97, 98, 99, 100]⟩ : ByteArray), (⟨#[97, 98, 99]⟩ : ByteArray)] y2.2.1 y2.2.2.1 y2.2.2.2).bind fun y3 => (par_ret _)) (par_bif ((spec_l01Below_p (2 : Int) y2.2.1 y2.2.2.1 y2.2.2.2).bind fun y4 => ((spec_l01Long_p (IntKind.wrap .i64 ((12 : Int) + y4.1)) (97 : Int)).bind fun y5 => (par_ret _))) (par_bif (par_ret _) (par_ret _))))))

def spec_l07Any_d (a0 : (List Int)) (a1 : Int) (a2 : Int) (k : (Int × Int × Int × Int × Bool × ByteArray × (List Int) × Int × Int × (List dRange) × (List dWrite)) → Option Res) : Option Res :=
  spec_l01Below_k (12 : Int) a0 a1 a2 (fun y1 =>
    spec_l01Below_k (60 : Int) y1.2.1 y1.2.2.1 y1.2.2.2 (fun y2 =>
      spec_l07Txn_k y2.2.1 y2.2.2.1 y2.2.2.2 (fun y3 =>
        spec_l07Copy_k (y3.1, (y3.2.1, (y3.2.2.1, (y3.2.2.2.1, (y3.2.2.2.2.2.2.2.2.2.1, (y3.2.2.2.2.2.2.2.2.2.2, (y3.2.2.2.2.1, y3.2.2.2.2.2.1))))))) (fun y4 =>
          bif (y1.1 == (0 : Int)) then
            if 0 ≤ (y2.1.tmod (3 : Int)) ∧ (y2.1.tmod (3 : Int)) < ([(0 : Int), (9999 : Int), (10000 : Int)].length : Int) then
              k (([(0 : Int), (9999 : Int), (10000 : Int)].getD (y2.1.tmod (3 : Int)).toNat (Ty.zero (.int .i64))), y4.2.1, y4.2.2.1, y4.2.2.2.1, y4.2.2.2.2.1, y4.2.2.2.2.2.1, y3.2.2.2.2.2.2.1, y3.2.2.2.2.2.2.2.1, y3.2.2.2.2.2.2.2.2.1, y4.2.2.2.2.2.2.1, y4.2.2.2.2.2.2.2)
            else none
          else
            bif (y1.1 == (1 : Int)) then
              k (y4.1, (y2.1.tmod (5 : Int)), y4.2.2.1, y4.2.2.2.1, y4.2.2.2.2.1, y4.2.2.2.2.2.1, y3.2.2.2.2.2.2.1, y3.2.2.2.2.2.2.2.1, y3.2.2.2.2.2.2.2.2.1, y4.2.2.2.2.2.2.1, y4.2.2.2.2.2.2.2)
            else
              bif (y1.1 == (2 : Int)) then
                k (y4.1, y4.2.1, y4.2.2.1, (y2.1.tmod (4 : Int)), y4.2.2.2.2.1, y4.2.2.2.2.2.1, y3.2.2.2.2.2.2.1, y3.2.2.2.2.2.2.2.1, y3.2.2.2.2.2.2.2.2.1, y4.2.2.2.2.2.2.1, y4.2.2.2.2.2.2.2)
              else
                bif (y1.1 == (3 : Int)) then
                  if 0 ≤ (y2.1.tmod (3 : Int)) ∧ (y2.1.tmod (3 : Int)) < ([(⟨#[]⟩ : ByteArray), (⟨#[65]⟩ : ByteArray), (⟨#[97, 98]⟩ : ByteArray)].length : Int) then
                    k (y4.1, y4.2.1, y4.2.2.1, y4.2.2.2.1, y4.2.2.2.2.1, ([(⟨#[]⟩ : ByteArray), (⟨#[65]⟩ : ByteArray), (⟨#[97, 98]⟩ : ByteArray)].getD (y2.1.tmod (3 : Int)).toNat (Ty.zero .str)), y3.2.2.2.2.2.2.1, y3.2.2.2.2.2.2.2.1, y3.2.2.2.2.2.2.2.2.1, y4.2.2.2.2.2.2.1, y4.2.2.2.2.2.2.2)
                  else none
                else
                  bif (y1.1 == (4 : Int)) then
                    if y4.2.2.2.2.2.2.1.length + [((⟨#[98]⟩ : ByteArray), (⟨#[97]⟩ : ByteArray))].length ≤ VE.maxLen then
                      k (y4.1, y4.2.1, y4.2.2.1, y4.2.2.2.1, y4.2.2.2.2.1, y4.2.2.2.2.2.1, y3.2.2.2.2.2.2.1, y3.2.2.2.2.2.2.2.1, y3.2.2.2.2.2.2.2.2.1, (y4.2.2.2.2.2.2.1 ++ [((⟨#[98]⟩ : ByteArray), (⟨#[97]⟩ : ByteArray))]), y4.2.2.2.2.2.2.2)
                    else none
                  else
                    bif (y1.1 == (5 : Int)) then
                      spec_l05Any_k y3.2.2.2.2.2.2.1 y3.2.2.2.2.2.2.2.1 y3.2.2.2.2.2.2.2.2.1 (fun y5 =>
                        if y4.2.2.2.2.2.2.2.length + [(y5.1, (y5.2.1, y5.2.2.1))].length ≤ VE.maxLen then
                          k (y4.1, y4.2.1, y4.2.2.1, y4.2.2.2.1, y4.2.2.2.2.1, y4.2.2.2.2.2.1, y5.2.2.2.1, y5.2.2.2.2.1, y5.2.2.2.2.2, y4.2.2.2.2.2.2.1, (y4.2.2.2.2.2.2.2 ++ [(y5.1, (y5.2.1, y5.2.2.1))]))
                        else none)
                    else
                      bif (y1.1 == (6 : Int)) then
                        k (y4.1, y4.2.1, y4.2.2.1, y4.2.2.2.1, true, y4.2.2.2.2.2.1, y3.2.2.2.2.2.2.1, y3.2.2.2.2.2.2.2.1, y3.2.2.2.2.2.2.2.2.1, y4.2.2.2.2.2.2.1, y4.2.2.2.2.2.2.2)
                      else
                        k (y4.1, y4.2.1, y4.2.2.1, y4.2.2.2.1, y4.2.2.2.2.1, y4.2.2.2.2.2.1, y3.2.2.2.2.2.2.1, y3.2.2.2.2.2.2.2.1, y3.2.2.2.2.2.2.2.2.1, y4.2.2.2.2.2.2.1, y4.2.2.2.2.2.2.2)))))

theorem spec_l07Any_h : ∃ g : (List Int) → Int → Int → ((Int × Int × Int × Int × Bool × ByteArray × (List Int) × Int × Int × (List dRange) × (List dWrite)) → Option Res) → Option Res, g = spec_l07Any_d := ⟨_, rfl⟩
def spec_l07Any_k : (List Int) → Int → Int → ((Int × Int × Int × Int × Bool × ByteArray × (List Int) × Int × Int × (List dRange) × (List dWrite)) → Option Res) → Option Res := Classical.choose spec_l07Any_h
theorem spec_l07Any_e : spec_l07Any_k = spec_l07Any_d := Classical.choose_spec spec_l07Any_h

theorem spec_l07Any_p (a0 : (List Int)) (a1 : Int) (a2 : Int) : Par (spec_l07Any_k a0 a1 a2) := by
  rw [spec_l07Any_e]
  unfold spec_l07Any_d
  exact ((spec_l01Below_p (12 : Int) a0 a1 a2).bind fun y1 => ((spec_l01Below_p (60 : Int) y1.2.1 y1.2.2.1 y1.2.2.2).bind fun y2 => ((spec_l07Txn_p y2.2.1 y2.2.2.1 y2.2.2.2).bind fun y3 => ((spec_l07Copy_p (y3.1, (y3.2.1, (y3.2.2.1, (y3.2.2.2.1, (y3.2.2.2.2.2.2.2.2.2.1, (y3.2.2.2.2.2.2.2.2.2.2, (y3.2.2.2.2.1, y3.2.2.2.2.2.1)))))))).bind fun y4 => (par_bif (par_ite (c := 0 ≤ (y2.1.tmod (3 : Int)) ∧ (y2.1.tmod (3 : Int)) < ([(0 : Int), (9999 : Int), (10000 : Int)].length : Int)) (par_ret _) par_none) (par_bif (par_ret _) (par_bif (par_ret _) (par_bif (par_ite (c := 0 ≤ (y2.1.tmod (3 : Int)) ∧ (y2.1.tmod (3 : Int)) < ([(⟨#[]⟩ : ByteArray), (⟨#[65]⟩ : ByteArray), (⟨#[97, 98]⟩ : ByteArray)].length : Int)) (par_ret _) par_none) (par_bif (par_ite (c := y4.2.2.2.2.2.2.1.length + [((⟨#[98]⟩ : ByteArray), (⟨#[97]⟩ : ByteArray))].length ≤ VE.maxLen) (par_ret _) par_none) (par_bif ((spec_l05Any_p y3.2.2.2.2.2.2.1 y3.2.2.2.2.2.2.2.1 y3.2.2.2.2.2.2.2.2.1).bind fun y5 => (par_ite (c := y4.2.2.2.2.2.2.2.length + [(y5.1, (y5.2.1, y5.2.2.1))].length ≤ VE.maxLen) (par_ret _) par_none)) (par_bif (par_ret _) (par_ret _))))))))))))

def spec_l08Pair_d (a0 : (List Int)) (k : (Int × Int × Int × Int × Bool × ByteArray × Int × Int × Int × Int × Bool × ByteArray × (List dRange) × (List dWrite) × (List dRange) × (List dWrite)) → Option Res) : Option Res :=
  spec_l01New_k a0 (fun y1 =>
    spec_l07Any_k y1.1 y1.2.1 y1.2.2 (fun y2 =>
      spec_l07Any_k y2.2.2.2.2.2.2.1 y2.2.2.2.2.2.2.2.1 y2.2.2.2.2.2.2.2.2.1 (fun y3 =>
        k (y2.1, y2.2.1, y2.2.2.1, y2.2.2.2.1, y2.2.2.2.2.1, y2.2.2.2.2.2.1, y3.1, y3.2.1, y3.2.2.1, y3.2.2.2.1, y3.2.2.2.2.1, y3.2.2.2.2.2.1, y2.2.2.2.2.2.2.2.2.2.1, y2.2.2.2.2.2.2.2.2.2.2, y3.2.2.2.2.2.2.2.2.2.1, y3.2.2.2.2.2.2.2.2.2.2))))

theorem spec_l08Pair_h : ∃ g : (List Int) → ((Int × Int × Int × Int × Bool × ByteArray × Int × Int × Int × Int × Bool × ByteArray × (List dRange) × (List dWrite) × (List dRange) × (List dWrite)) → Option Res) → Option Res, g = spec_l08Pair_d := ⟨_, rfl⟩
def spec_l08Pair_k : (List Int) → ((Int × Int × Int × Int × Bool × ByteArray × Int × Int × Int × Int × Bool × ByteArray × (List dRange) × (List dWrite) × (List dRange) × (List dWrite)) → Option Res) → Option Res := Classical.choose spec_l08Pair_h
theorem spec_l08Pair_e : spec_l08Pair_k = spec_l08Pair_d := Classical.choose_spec spec_l08Pair_h

theorem spec_l08Pair_p (a0 : (List Int)) : Par (spec_l08Pair_k a0) := by
  rw [spec_l08Pair_e]
  unfold spec_l08Pair_d
  exact ((spec_l01New_p a0).bind fun y1 => ((spec_l07Any_p y1.1 y1.2.1 y1.2.2).bind fun y2 => ((spec_l07Any_p y2.2.2.2.2.2.2.1 y2.2.2.2.2.2.2.2.1 y2.2.2.2.2.2.2.2.2.1).bind fun y3 => (par_ret _))))

def spec_DrawAhead_d (a0 : (List Int)) (k : (Int × Int × Int × Int × Bool × ByteArray × Int × Int × Int × Int × Bool × ByteArray × (List dRange) × (List dWrite) × (List dRange) × (List dWrite)) → Option Res) : Option Res :=
  spec_l08Pair_k a0 (fun y1 =>
    k (y1.1, y1.2.1, y1.2.2.1, y1.2.2.2.1, y1.2.2.2.2.1, y1.2.2.2.2.2.1, y1.2.2.2.2.2.2.1, y1.2.2.2.2.2.2.2.1, y1.2.2.2.2.2.2.2.2.1, y1.2.2.2.2.2.2.2.2.2.1, y1.2.2.2.2.2.2.2.2.2.2.1, y1.2.2.2.2.2.2.2.2.2.2.2.1, y1.2.2.2.2.2.2.2.2.2.2.2.2.1, y1.2.2.2.2.2.2.2.2.2.2.2.2.2.1, y1.2.2.2.2.2.2.2.2.2.2.2.2.2.2.1, y1.2.2.2.2.2.2.2.2.2.2.2.2.2.2.2))

theorem spec_DrawAhead_h : ∃ g : (List Int) → ((Int × Int × Int × Int × Bool × ByteArray × Int × Int × Int × Int × Bool × ByteArray × (List dRange) × (List dWrite) × (List dRange) × (List dWrite)) → Option Res) → Option Res, g = spec_DrawAhead_d := ⟨_, rfl⟩
def spec_DrawAhead_k : (List Int) → ((Int × Int × Int × Int × Bool × ByteArray × Int × Int × Int × Int × Bool × ByteArray × (List dRange) × (List dWrite) × (List dRange) × (List dWrite)) → Option Res) → Option Res := Classical.choose spec_DrawAhead_h
theorem spec_DrawAhead_e : spec_DrawAhead_k = spec_DrawAhead_d := Classical.choose_spec spec_DrawAhead_h

theorem spec_DrawAhead_p (a0 : (List Int)) : Par (spec_DrawAhead_k a0) := by
  rw [spec_DrawAhead_e]
  unfold spec_DrawAhead_d
  exact ((spec_l08Pair_p a0).bind fun y1 => (par_ret _))

def impl_InRange_d (a0 : dRange) (a1 : ByteArray) (k : Bool → Option Res) : Option Res :=
  bif (!(strLess a1 a0.1)) then
    k ((strLess a1 a0.2) || (strEq a1 a0.2))
  else
    k false

theorem impl_InRange_h : ∃ g : dRange → ByteArray → (Bool → Option Res) → Option Res, g = impl_InRange_d := ⟨_, rfl⟩
def impl_InRange_k : dRange → ByteArray → (Bool → Option Res) → Option Res := Classical.choose impl_InRange_h
theorem impl_InRange_e : impl_InRange_k = impl_InRange_d := Classical.choose_spec impl_InRange_h

theorem impl_InRange_p (a0 : dRange) (a1 : ByteArray) : Par (impl_InRange_k a0 a1) := by
  rw [impl_InRange_e]
  unfold impl_InRange_d
  exact (par_bif (par_ret _) (par_ret _))

def impl_Touches_b2 (x : ((List dWrite) × Bool × (List dRange) × Int × Int × (List dWrite) × Int × Int × ByteArray × ByteArray)) (k : ((List dWrite) × Bool × (List dRange) × Int × Int × (List dWrite) × Int × Int × ByteArray × ByteArray) ⊕ (((List dWrite) × Bool × (List dRange) × Int × Int × (List dWrite) × Int × Int × ByteArray × ByteArray) ⊕ ((List dWrite) × Bool × (List dRange) × Int × Int × (List dWrite) × Int × Int × ByteArray × ByteArray)) → Option Res) : Option Res :=
    bif (decide (x.2.2.2.2.2.2.2.1 < x.2.2.2.2.2.2.1)) then
      if 0 ≤ x.2.2.2.2.2.2.2.1 ∧ x.2.2.2.2.2.2.2.1 < (x.2.2.2.2.2.1.length : Int) then
        impl_InRange_k x.2.2.2.2.2.2.2.2 ((rd (Ty.zero tWrite) x.2.2.2.2.2.1 x.2.2.2.2.2.2.2.1).1) (fun y5 =>
          bif y5 then
            k (.inr (.inl (x.1, true, x.2.2.1, x.2.2.2.1, x.2.2.2.2.1, x.2.2.2.2.2.1, x.2.2.2.2.2.2.1, x.2.2.2.2.2.2.2.1, x.2.2.2.2.2.2.2.2.1, x.2.2.2.2.2.2.2.2.2)))
          else
            k (.inl (x.1, x.2.1, x.2.2.1, x.2.2.2.1, x.2.2.2.2.1, x.2.2.2.2.2.1, x.2.2.2.2.2.2.1, (IntKind.wrap .i64 (x.2.2.2.2.2.2.2.1 + (1 : Int))), x.2.2.2.2.2.2.2.2.1, x.2.2.2.2.2.2.2.2.2)))
      else none
    else
      k (.inr (.inr (x.1, x.2.1, x.2.2.1, x.2.2.2.1, x.2.2.2.2.1, x.2.2.2.2.2.1, x.2.2.2.2.2.2.1, x.2.2.2.2.2.2.2.1, x.2.2.2.2.2.2.2.2.1, x.2.2.2.2.2.2.2.2.2)))

theorem impl_Touches_bp2 (x : ((List dWrite) × Bool × (List dRange) × Int × Int × (List dWrite) × Int × Int × ByteArray × ByteArray)) : Par (impl_Touches_b2 x) := by
  unfold impl_Touches_b2
  exact (par_bif (par_ite (c := 0 ≤ x.2.2.2.2.2.2.2.1 ∧ x.2.2.2.2.2.2.2.1 < (x.2.2.2.2.2.1.length : Int)) ((impl_InRange_p x.2.2.2.2.2.2.2.2 ((rd (Ty.zero tWrite) x.2.2.2.2.2.1 x.2.2.2.2.2.2.2.1).1)).bind fun y5 => (par_bif (par_ret _) (par_ret _))) par_none) (par_ret _))

def impl_Touches_b0 (x : ((List dWrite) × Bool × (List dRange) × Int × Int)) (k : ((List dWrite) × Bool × (List dRange) × Int × Int) ⊕ (((List dWrite) × Bool × (List dRange) × Int × Int) ⊕ ((List dWrite) × Bool × (List dRange) × Int × Int)) → Option Res) : Option Res :=
    bif (decide (x.2.2.2.2 < x.2.2.2.1)) then
      if 0 ≤ x.2.2.2.2 ∧ x.2.2.2.2 < (x.2.2.1.length : Int) then
        loopK impl_Touches_b2 Fuel (x.1, x.2.1, x.2.2.1, x.2.2.2.1, x.2.2.2.2, x.1, (x.1.length : Int), (0 : Int), (rd (Ty.zero tRange) x.2.2.1 x.2.2.2.2).1, (rd (Ty.zero tRange) x.2.2.1 x.2.2.2.2).2) (Sum.elim (fun z3 =>
          k (.inr (.inr (z3.1, z3.2.1, z3.2.2.1, z3.2.2.2.1, z3.2.2.2.2.1)))) (fun z4 =>
          k (.inl (z4.1, z4.2.1, z4.2.2.1, z4.2.2.2.1, (IntKind.wrap .i64 (z4.2.2.2.2.1 + (1 : Int)))))))
      else none
    else
      k (.inr (.inl (x.1, x.2.1, x.2.2.1, x.2.2.2.1, x.2.2.2.2)))

theorem impl_Touches_bp0 (x : ((List dWrite) × Bool × (List dRange) × Int × Int)) : Par (impl_Touches_b0 x) := by
  unfold impl_Touches_b0
  exact (par_bif (par_ite (c := 0 ≤ x.2.2.2.2 ∧ x.2.2.2.2 < (x.2.2.1.length : Int)) ((par_loop impl_Touches_bp2 Fuel (x.1, x.2.1, x.2.2.1, x.2.2.2.1, x.2.2.2.2, x.1, (x.1.length : Int), (0 : Int), (rd (Ty.zero tRange) x.2.2.1 x.2.2.2.2).1, (rd (Ty.zero tRange) x.2.2.1 x.2.2.2.2).2)).bind2 (fun z3 => (par_ret _)) (fun z4 => (par_ret _))) par_none) (par_ret _))

def impl_Touches_d (a0 : (List dRange)) (a1 : (List dWrite)) (k : Bool → Option Res) : Option Res :=
  loopK impl_Touches_b0 Fuel (a1, false, a0, (a0.length : Int), (0 : Int)) (Sum.elim (fun _ =>
    k false) (fun z2 =>
    k z2.2.1))

theorem impl_Touches_h : ∃ g : (List dRange) → (List dWrite) → (Bool → Option Res) → Option Res, g = impl_Touches_d := ⟨_, rfl⟩
def impl_Touches_k : (List dRange) → (List dWrite) → (Bool → Option Res) → Option Res := Classical.choose impl_Touches_h
theorem impl_Touches_e : impl_Touches_k = impl_Touches_d := Classical.choose_spec impl_Touches_h

theorem impl_Touches_p (a0 : (List dRange)) (a1 : (List dWrite)) : Par (impl_Touches_k a0 a1) := by
  rw [impl_Touches_e]
  unfold impl_Touches_d
  exact ((par_loop impl_Touches_bp0 Fuel (a1, false, a0, (a0.length : Int), (0 : Int))).bind2 (fun z1 => (par_ret _)) (fun z2 => (par_ret _)))

def impl_Ahead_d (a0 : dTxn) (a1 : dTxn) (k : Bool → Option Res) : Option Res :=
  impl_Beside_k a0 a1 (fun y1 =>
    bif y1 then
      impl_Touches_k a0.2.2.2.2.1 a1.2.2.2.2.2.1 (fun y2 =>
        k y2)
    else
      k false)

theorem impl_Ahead_h : ∃ g : dTxn → dTxn → (Bool → Option Res) → Option Res, g = impl_Ahead_d := ⟨_, rfl⟩
def impl_Ahead_k : dTxn → dTxn → (Bool → Option Res) → Option Res := Classical.choose impl_Ahead_h
theorem impl_Ahead_e : impl_Ahead_k = impl_Ahead_d := Classical.choose_spec impl_Ahead_h

theorem impl_Ahead_p (a0 : dTxn) (a1 : dTxn) : Par (impl_Ahead_k a0 a1) := by
  rw [impl_Ahead_e]
  unfold impl_Ahead_d
  exact ((impl_Beside_p a0 a1).bind fun y1 => (par_bif ((impl_Touches_p a0.2.2.2.2.1 a1.2.2.2.2.2.1).bind fun y2 => (par_ret _)) (par_ret _)))

def spec_InRange_d (a0 : dRange) (a1 : ByteArray) (k : Bool → Option Res) : Option Res :=
  bif (!(strLess a1 a0.1)) then
    k ((strLess a1 a0.2) || (strEq a1 a0.2))
  else
    k false

theorem spec_InRange_h : ∃ g : dRange → ByteArray → (Bool → Option Res) → Option Res, g = spec_InRange_d := ⟨_, rfl⟩
def spec_InRange_k : dRange → ByteArray → (Bool → Option Res) → Option Res := Classical.choose spec_InRange_h
theorem spec_InRange_e : spec_InRange_k = spec_InRange_d := Classical.choose_spec spec_InRange_h

theorem spec_InRange_p (a0 : dRange) (a1 : ByteArray) : Par (spec_InRange_k a0 a1) := by
  rw [spec_InRange_e]
  unfold spec_InRange_d
  exact (par_bif (par_ret _) (par_ret _))

def spec_Touches_b2 (x : ((List dRange) × (List dWrite) × Bool × Int × Int)) (k : ((List dRange) × (List dWrite) × Bool × Int × Int) ⊕ (((List dRange) × (List dWrite) × Bool × Int × Int) ⊕ ((List dRange) × (List dWrite) × Bool × Int × Int)) → Option Res) : Option Res :=
    bif (decide (x.2.2.2.2 < (x.2.1.length : Int))) then
      if 0 ≤ x.2.2.2.1 ∧ x.2.2.2.1 < (x.1.length : Int) then
        if 0 ≤ x.2.2.2.2 ∧ x.2.2.2.2 < (x.2.1.length : Int) then
          spec_InRange_k (rd (Ty.zero tRange) x.1 x.2.2.2.1) ((rd (Ty.zero tWrite) x.2.1 x.2.2.2.2).1) (fun y5 =>
            bif y5 then
              k (.inr (.inl (x.1, x.2.1, true, x.2.2.2.1, x.2.2.2.2)))
            else
              k (.inl (x.1, x.2.1, x.2.2.1, x.2.2.2.1, (IntKind.wrap .i64 (x.2.2.2.2 + (1 : Int))))))
        else none
      else none
    else
      k (.inr (.inr (x.1, x.2.1, x.2.2.1, x.2.2.2.1, x.2.2.2.2)))

theorem spec_Touches_bp2 (x : ((List dRange) × (List dWrite) × Bool × Int × Int)) : Par (spec_Touches_b2 x) := by
  unfold spec_Touches_b2
  exact (par_bif (par_ite (c := 0 ≤ x.2.2.2.1 ∧ x.2.2.2.1 < (x.1.length : Int)) (par_ite (c := 0 ≤ x.2.2.2.2 ∧ x.2.2.2.2 < (x.2.1.length : Int)) ((spec_InRange_p (rd (Ty.zero tRange) x.1 x.2.2.2.1) ((rd (Ty.zero tWrite) x.2.1 x.2.2.2.2).1)).bind fun y5 => (par_bif (par_ret _) (par_ret _))) par_none) par_none) (par_ret _))

def spec_Touches_b0 (x : ((List dRange) × (List dWrite) × Bool × Int)) (k : ((List dRange) × (List dWrite) × Bool × Int) ⊕ (((List dRange) × (List dWrite) × Bool × Int) ⊕ ((List dRange) × (List dWrite) × Bool × Int)) → Option Res) : Option Res :=
    bif (decide (x.2.2.2 < (x.1.length : Int))) then
      loopK spec_Touches_b2 Fuel (x.1, x.2.1, x.2.2.1, x.2.2.2, (0 : Int)) (Sum.elim (fun z3 =>
        k (.inr (.inr (z3.1, z3.2.1, z3.2.2.1, z3.2.2.2.1)))) (fun z4 =>
        k (.inl (z4.1, z4.2.1, z4.2.2.1, (IntKind.wrap .i64 (z4.2.2.2.1 + (1 : Int)))))))
    else
      k (.inr (.inl (x.1, x.2.1, x.2.2.1, x.2.2.2)))

theorem spec_Touches_bp0 (x : ((List dRange) × (List dWrite) × Bool × Int)) : Par (spec_Touches_b0 x) := by
  unfold spec_Touches_b0
  exact (par_bif ((par_loop spec_Touches_bp2 Fuel (x.1, x.2.1, x.2.2.1, x.2.2.2, (0 : Int))).bind2 (fun z3 => (par_ret _)) (fun z4 => (par_ret _))) (par_ret _))

def spec_Touches_d (a0 : (List dRange)) (a1 : (List dWrite)) (k : Bool → Option Res) : Option Res :=
  loopK spec_Touches_b0 Fuel (a0, a1, false, (0 : Int)) (Sum.elim (fun _ =>
    k false) (fun z2 =>
    k z2.2.2.1))

theorem spec_Touches_h : ∃ g : (List dRange) → (List dWrite) → (Bool → Option Res) → Option Res, g = spec_Touches_d := ⟨_, rfl⟩
def spec_Touches_k : (List dRange) → (List dWrite) → (Bool → Option Res) → Option Res := Classical.choose spec_Touches_h
theorem spec_Touches_e : spec_Touches_k = spec_Touches_d := Classical.choose_spec spec_Touches_h

theorem spec_Touches_p (a0 : (List dRange)) (a1 : (List dWrite)) : Par (spec_Touches_k a0 a1) := by
  rw [spec_Touches_e]
  unfold spec_Touches_d
  exact ((par_loop spec_Touches_bp0 Fuel (a0, a1, false, (0 : Int))).bind2 (fun z1 => (par_ret _)) (fun z2 => (par_ret _)))

def spec_Beside_d (a0 : dTxn) (a1 : dTxn) (k : Bool → Option Res) : Option Res :=
  bif (a0.1 == a1.1) then
    k false
  else
    bif (a0.2.1 == (3 : Int)) then
      bif (decide (a0.2.2.2.1 ≤ a1.2.2.1)) then
        k false
      else
        bif (a1.2.1 == (3 : Int)) then
          bif (decide (a1.2.2.2.1 ≤ a0.2.2.1)) then
            k false
          else
            k true
        else
          k true
    else
      bif (a1.2.1 == (3 : Int)) then
        bif (decide (a1.2.2.2.1 ≤ a0.2.2.1)) then
          k false
        else
          k true
      else
        k true

theorem spec_Beside_h : ∃ g : dTxn → dTxn → (Bool → Option Res) → Option Res, g = spec_Beside_d := ⟨_, rfl⟩
def spec_Beside_k : dTxn → dTxn → (Bool → Option Res) → Option Res := Classical.choose spec_Beside_h
theorem spec_Beside_e : spec_Beside_k = spec_Beside_d := Classical.choose_spec spec_Beside_h

theorem spec_Beside_p (a0 : dTxn) (a1 : dTxn) : Par (spec_Beside_k a0 a1) := by
  rw [spec_Beside_e]
  unfold spec_Beside_d
  exact (par_bif (par_ret _) (par_bif (par_bif (par_ret _) (par_bif (par_bif (par_ret _) (par_ret _)) (par_ret _))) (par_bif (par_bif (par_ret _) (par_ret _)) (par_ret _))))

def spec_Ahead_d (a0 : dTxn) (a1 : dTxn) (k : Bool → Option Res) : Option Res :=
  spec_Beside_k a0 a1 (fun y1 =>
    bif y1 then
      spec_Touches_k a0.2.2.2.2.1 a1.2.2.2.2.2.1 (fun y2 =>
        k y2)
    else
      k false)

theorem spec_Ahead_h : ∃ g : dTxn → dTxn → (Bool → Option Res) → Option Res, g = spec_Ahead_d := ⟨_, rfl⟩
def spec_Ahead_k : dTxn → dTxn → (Bool → Option Res) → Option Res := Classical.choose spec_Ahead_h
theorem spec_Ahead_e : spec_Ahead_k = spec_Ahead_d := Classical.choose_spec spec_Ahead_h

theorem spec_Ahead_p (a0 : dTxn) (a1 : dTxn) : Par (spec_Ahead_k a0 a1) := by
  rw [spec_Ahead_e]
  unfold spec_Ahead_d
  exact ((spec_Beside_p a0 a1).bind fun y1 => (par_bif ((spec_Touches_p a0.2.2.2.2.1 a1.2.2.2.2.2.1).bind fun y2 => (par_ret _)) (par_ret _)))

def laws_FnEdges_j5000006 (x : ((List Int) × Bool × Bool × Bool × Int × Int × Int × Int × Bool × ByteArray × Int × Int × Int × Int × Bool × ByteArray × (List dRange) × (List dWrite) × (List dRange) × (List dWrite))) (k : ((List Int) × Bool × Bool × Bool × Int × Int × Int × Int × Bool × ByteArray × Int × Int × Int × Int × Bool × ByteArray × (List dRange) × (List dWrite) × (List dRange) × (List dWrite)) → Option Res) : Option Res :=
    spec_DrawAhead_k x.1 (fun y9 =>
      bif (x.2.2.1 == (!x.2.2.2.1)) then
        impl_Beside_k (x.2.2.2.2.2.2.2.2.2.2.1, (x.2.2.2.2.2.2.2.2.2.2.2.1, (x.2.2.2.2.2.2.2.2.2.2.2.2.1, (x.2.2.2.2.2.2.2.2.2.2.2.2.2.1, (x.2.2.2.2.2.2.2.2.2.2.2.2.2.2.2.2.2.2.1, (x.2.2.2.2.2.2.2.2.2.2.2.2.2.2.2.2.2.2.2, (x.2.2.2.2.2.2.2.2.2.2.2.2.2.2.1, x.2.2.2.2.2.2.2.2.2.2.2.2.2.2.2.1))))))) (x.2.2.2.2.1, (x.2.2.2.2.2.1, (x.2.2.2.2.2.2.1, (x.2.2.2.2.2.2.2.1, (x.2.2.2.2.2.2.2.2.2.2.2.2.2.2.2.2.1, (x.2.2.2.2.2.2.2.2.2.2.2.2.2.2.2.2.2.1, (x.2.2.2.2.2.2.2.2.1, x.2.2.2.2.2.2.2.2.2.1))))))) (fun y10 =>
          bif (x.2.2.1 == y10) then
            impl_Ahead_k (x.2.2.2.2.1, (x.2.2.2.2.2.1, (x.2.2.2.2.2.2.1, (x.2.2.2.2.2.2.2.1, (x.2.2.2.2.2.2.2.2.2.2.2.2.2.2.2.2.1, (x.2.2.2.2.2.2.2.2.2.2.2.2.2.2.2.2.2.1, (x.2.2.2.2.2.2.2.2.1, x.2.2.2.2.2.2.2.2.2.1))))))) (x.2.2.2.2.2.2.2.2.2.2.1, (x.2.2.2.2.2.2.2.2.2.2.2.1, (x.2.2.2.2.2.2.2.2.2.2.2.2.1, (x.2.2.2.2.2.2.2.2.2.2.2.2.2.1, (x.2.2.2.2.2.2.2.2.2.2.2.2.2.2.2.2.2.2.1, (x.2.2.2.2.2.2.2.2.2.2.2.2.2.2.2.2.2.2.2, (x.2.2.2.2.2.2.2.2.2.2.2.2.2.2.1, x.2.2.2.2.2.2.2.2.2.2.2.2.2.2.2.1))))))) (fun y11 =>
              bif x.2.2.1 then
                spec_Touches_k x.2.2.2.2.2.2.2.2.2.2.2.2.2.2.2.2.1 x.2.2.2.2.2.2.2.2.2.2.2.2.2.2.2.2.2.2.2 (fun y12 =>
                  bif (y11 == y12) then
                    impl_Ahead_k (y9.1, (y9.2.1, (y9.2.2.1, (y9.2.2.2.1, (y9.2.2.2.2.2.2.2.2.2.2.2.2.1, (y9.2.2.2.2.2.2.2.2.2.2.2.2.2.1, (y9.2.2.2.2.1, y9.2.2.2.2.2.1))))))) (y9.2.2.2.2.2.2.1, (y9.2.2.2.2.2.2.2.1, (y9.2.2.2.2.2.2.2.2.1, (y9.2.2.2.2.2.2.2.2.2.1, (y9.2.2.2.2.2.2.2.2.2.2.2.2.2.2.1, (y9.2.2.2.2.2.2.2.2.2.2.2.2.2.2.2, (y9.2.2.2.2.2.2.2.2.2.2.1, y9.2.2.2.2.2.2.2.2.2.2.2.1))))))) (fun y13 =>
                      spec_Ahead_k (y9.1, (y9.2.1, (y9.2.2.1, (y9.2.2.2.1, (y9.2.2.2.2.2.2.2.2.2.2.2.2.1, (y9.2.2.2.2.2.2.2.2.2.2.2.2.2.1, (y9.2.2.2.2.1, y9.2.2.2.2.2.1))))))) (y9.2.2.2.2.2.2.1, (y9.2.2.2.2.2.2.2.1, (y9.2.2.2.2.2.2.2.2.1, (y9.2.2.2.2.2.2.2.2.2.1, (y9.2.2.2.2.2.2.2.2.2.2.2.2.2.2.1, (y9.2.2.2.2.2.2.2.2.2.2.2.2.2.2.2, (y9.2.2.2.2.2.2.2.2.2.2.1, y9.2.2.2.2.2.2.2.2.2.2.2.1))))))) (fun y14 =>
                        bif (y13 == y14) then
                          impl_Beside_k (y9.1, (y9.2.1, (y9.2.2.1, (y9.2.2.2.1, (y9.2.2.2.2.2.2.2.2.2.2.2.2.1, (y9.2.2.2.2.2.2.2.2.2.2.2.2.2.1, (y9.2.2.2.2.1, y9.2.2.2.2.2.1))))))) (y9.2.2.2.2.2.2.1, (y9.2.2.2.2.2.2.2.1, (y9.2.2.2.2.2.2.2.2.1, (y9.2.2.2.2.2.2.2.2.2.1, (y9.2.2.2.2.2.2.2.2.2.2.2.2.2.2.1, (y9.2.2.2.2.2.2.2.2.2.2.2.2.2.2.2, (y9.2.2.2.2.2.2.2.2.2.2.1, y9.2.2.2.2.2.2.2.2.2.2.2.1))))))) (fun y15 =>
                            spec_Beside_k (y9.1, (y9.2.1, (y9.2.2.1, (y9.2.2.2.1, (y9.2.2.2.2.2.2.2.2.2.2.2.2.1, (y9.2.2.2.2.2.2.2.2.2.2.2.2.2.1, (y9.2.2.2.2.1, y9.2.2.2.2.2.1))))))) (y9.2.2.2.2.2.2.1, (y9.2.2.2.2.2.2.2.1, (y9.2.2.2.2.2.2.2.2.1, (y9.2.2.2.2.2.2.2.2.2.1, (y9.2.2.2.2.2.2.2.2.2.2.2.2.2.2.1, (y9.2.2.2.2.2.2.2.2.2.2.2.2.2.2.2, (y9.2.2.2.2.2.2.2.2.2.2.1, y9.2.2.2.2.2.2.2.2.2.2.2.1))))))) (fun y16 =>
                              bif (y15 == y16) then
                                impl_Ahead_k (x.2.2.2.2.1, (x.2.2.2.2.2.1, (x.2.2.2.2.2.2.1, (x.2.2.2.2.2.2.2.1, (x.2.2.2.2.2.2.2.2.2.2.2.2.2.2.2.2.1, (x.2.2.2.2.2.2.2.2.2.2.2.2.2.2.2.2.2.1, (x.2.2.2.2.2.2.2.2.1, x.2.2.2.2.2.2.2.2.2.1))))))) (x.2.2.2.2.1, (x.2.2.2.2.2.1, (x.2.2.2.2.2.2.1, (x.2.2.2.2.2.2.2.1, (x.2.2.2.2.2.2.2.2.2.2.2.2.2.2.2.2.1, (x.2.2.2.2.2.2.2.2.2.2.2.2.2.2.2.2.2.1, (x.2.2.2.2.2.2.2.2.1, x.2.2.2.2.2.2.2.2.2.1))))))) (fun y17 =>
                                  k (x.1, (!y17), x.2.2.1, x.2.2.2.1, x.2.2.2.2.1, x.2.2.2.2.2.1, x.2.2.2.2.2.2.1, x.2.2.2.2.2.2.2.1, x.2.2.2.2.2.2.2.2.1, x.2.2.2.2.2.2.2.2.2.1, x.2.2.2.2.2.2.2.2.2.2.1, x.2.2.2.2.2.2.2.2.2.2.2.1, x.2.2.2.2.2.2.2.2.2.2.2.2.1, x.2.2.2.2.2.2.2.2.2.2.2.2.2.1, x.2.2.2.2.2.2.2.2.2.2.2.2.2.2.1, x.2.2.2.2.2.2.2.2.2.2.2.2.2.2.2.1, x.2.2.2.2.2.2.2.2.2.2.2.2.2.2.2.2.1, x.2.2.2.2.2.2.2.2.2.2.2.2.2.2.2.2.2.1, x.2.2.2.2.2.2.2.2.2.2.2.2.2.2.2.2.2.2.1, x.2.2.2.2.2.2.2.2.2.2.2.2.2.2.2.2.2.2.2))
                              else
                                k (x.1, false, x.2.2.1, x.2.2.2.1, x.2.2.2.2.1, x.2.2.2.2.2.1, x.2.2.2.2.2.2.1, x.2.2.2.2.2.2.2.1, x.2.2.2.2.2.2.2.2.1, x.2.2.2.2.2.2.2.2.2.1, x.2.2.2.2.2.2.2.2.2.2.1, x.2.2.2.2.2.2.2.2.2.2.2.1, x.2.2.2.2.2.2.2.2.2.2.2.2.1, x.2.2.2.2.2.2.2.2.2.2.2.2.2.1, x.2.2.2.2.2.2.2.2.2.2.2.2.2.2.1, x.2.2.2.2.2.2.2.2.2.2.2.2.2.2.2.1, x.2.2.2.2.2.2.2.2.2.2.2.2.2.2.2.2.1, x.2.2.2.2.2.2.2.2.2.2.2.2.2.2.2.2.2.1, x.2.2.2.2.2.2.2.2.2.2.2.2.2.2.2.2.2.2.1, x.2.2.2.2.2.2.2.2.2.2.2.2.2.2.2.2.2.2.2)))
                        else
                          k (x.1, false, x.2.2.1, x.2.2.2.1, x.2.2.2.2.1, x.2.2.2.2.2.1, x.2.2.2.2.2.2.1, x.2.2.2.2.2.2.2.1, x.2.2.2.2.2.2.2.2.1, x.2.2.2.2.2.2.2.2.2.1, x.2.2.2.2.2.2.2.2.2.2.1, x.2.2.2.2.2.2.2.2.2.2.2.1, x.2.2.2.2.2.2.2.2.2.2.2.2.1, x.2.2.2.2.2.2.2.2.2.2.2.2.2.1, x.2.2.2.2.2.2.2.2.2.2.2.2.2.2.1, x.2.2.2.2.2.2.2.2.2.2.2.2.2.2.2.1, x.2.2.2.2.2.2.2.2.2.2.2.2.2.2.2.2.1, x.2.2.2.2.2.2.2.2.2.2.2.2.2.2.2.2.2.1, x.2.2.2.2.2.2.2.2.2.2.2.2.2.2.2.2.2.2.1, x.2.2.2.2.2.2.2.2.2.2.2.2.2.2.2.2.2.2.2)))
                  else
                    k (x.1, false, x.2.2.1, x.2.2.2.1, x.2.2.2.2.1, x.2.2.2.2.2.1, x.2.2.2.2.2.2.1, x.2.2.2.2.2.2.2.1, x.2.2.2.2.2.2.2.2.1, x.2.2.2.2.2.2.2.2.2.1, x.2.2.2.2.2.2.2.2.2.2.1, x.2.2.2.2.2.2.2.2.2.2.2.1, x.2.2.2.2.2.2.2.2.2.2.2.2.1, x.2.2.2.2.2.2.2.2.2.2.2.2.2.1, x.2.2.2.2.2.2.2.2.2.2.2.2.2.2.1, x.2.2.2.2.2.2.2.2.2.2.2.2.2.2.2.1, x.2.2.2.2.2.2.2.2.2.2.2.2.2.2.2.2.1, x.2.2.2.2.2.2.2.2.2.2.2.2.2.2.2.2.2.1, x.2.2.2.2.2.2.2.2.2.2.2.2.2.2.2.2.2.2.1, x.2.2.2.2.2.2.2.2.2.2.2.2.2.2.2.2.2.2.2))
              else
                bif (y11 == false) then
                  impl_Ahead_k (y9.1, (y9.2.1, (y9.2.2.1, (y9.2.2.2.1, (y9.2.2.2.2.2.2.2.2.2.2.2.2.1, (y9.2.2.2.2.2.2.2.2.2.2.2.2.2.1, (y9.2.2.2.2.1, y9.2.2.2.2.2.1))))))) (y9.2.2.2.2.2.2.1, (y9.2.2.2.2.2.2.2.1, (y9.2.2.2.2.2.2.2.2.1, (y9.2.2.2.2.2.2.2.2.2.1, (y9.2.2.2.2.2.2.2.2.2.2.2.2.2.2.1, (y9.2.2.2.2.2.2.2.2.2.2.2.2.2.2.2, (y9.2.2.2.2.2.2.2.2.2.2.1, y9.2.2.2.2.2.2.2.2.2.2.2.1))))))) (fun y18 =>
                    spec_Ahead_k (y9.1, (y9.2.1, (y9.2.2.1, (y9.2.2.2.1, (y9.2.2.2.2.2.2.2.2.2.2.2.2.1, (y9.2.2.2.2.2.2.2.2.2.2.2.2.2.1, (y9.2.2.2.2.1, y9.2.2.2.2.2.1))))))) (y9.2.2.2.2.2.2.1, (y9.2.2.2.2.2.2.2.1, (y9.2.2.2.2.2.2.2.2.1, (y9.2.2.2.2.2.2.2.2.2.1, (y9.2.2.2.2.2.2.2.2.2.2.2.2.2.2.1, (y9.2.2.2.2.2.2.2.2.2.2.2.2.2.2.2, (y9.2.2.2.2.2.2.2.2.2.2.1, y9.2.2.2.2.2.2.2.2.2.2.2.1))))))) (fun y19 =>
                      bif (y18 == y19) then
                        impl_Beside_k (y9.1, (y9.2.1, (y9.2.2.1, (y9.2.2.2.1, (y9.2.2.2.2.2.2.2.2.2.2.2.2.1, (y9.2.2.2.2.2.2.2.2.2.2.2.2.2.1, (y9.2.2.2.2.1, y9.2.2.2.2.2.1))))))) (y9.2.2.2.2.2.2.1, (y9.2.2.2.2.2.2.2.1, (y9.2.2.2.2.2.2.2.2.1, (y9.2.2.2.2.2.2.2.2.2.1, (y9.2.2.2.2.2.2.2.2.2.2.2.2.2.2.1, (y9.2.2.2.2.2.2.2.2.2.2.2.2.2.2.2, (y9.2.2.2.2.2.2.2.2.2.2.1, y9.2.2.2.2.2.2.2.2.2.2.2.1))))))) (fun y20 =>
                          spec_Beside_k (y9.1, (y9.2.1, (y9.2.2.1, (y9.2.2.2.1, (y9.2.2.2.2.2.2.2.2.2.2.2.2.1, (y9.2.2.2.2.2.2.2.2.2.2.2.2.2.1, (y9.2.2.2.2.1, y9.2.2.2.2.2.1))))))) (y9.2.2.2.2.2.2.1, (y9.2.2.2.2.2.2.2.1, (y9.2.2.2.2.2.2.2.2.1, (y9.2.2.2.2.2.2.2.2.2.1, (y9.2.2.2.2.2.2.2.2.2.2.2.2.2.2.1, (y9.2.2.2.2.2.2.2.2.2.2.2.2.2.2.2, (y9.2.2.2.2.2.2.2.2.2.2.1, y9.2.2.2.2.2.2.2.2.2.2.2.1))))))) (fun y21 =>
                            bif (y20 == y21) then
                              impl_Ahead_k (x.2.2.2.2.1, (x.2.2.2.2.2.1, (x.2.2.2.2.2.2.1, (x.2.2.2.2.2.2.2.1, (x.2.2.2.2.2.2.2.2.2.2.2.2.2.2.2.2.1, (x.2.2.2.2.2.2.2.2.2.2.2.2.2.2.2.2.2.1, (x.2.2.2.2.2.2.2.2.1, x.2.2.2.2.2.2.2.2.2.1))))))) (x.2.2.2.2.1, (x.2.2.2.2.2.1, (x.2.2.2.2.2.2.1, (x.2.2.2.2.2.2.2.1, (x.2.2.2.2.2.2.2.2.2.2.2.2.2.2.2.2.1, (x.2.2.2.2.2.2.2.2.2.2.2.2.2.2.2.2.2.1, (x.2.2.2.2.2.2.2.2.1, x.2.2.2.2.2.2.2.2.2.1))))))) (fun y22 =>
                                k (x.1, (!y22), x.2.2.1, x.2.2.2.1, x.2.2.2.2.1, x.2.2.2.2.2.1, x.2.2.2.2.2.2.1, x.2.2.2.2.2.2.2.1, x.2.2.2.2.2.2.2.2.1, x.2.2.2.2.2.2.2.2.2.1, x.2.2.2.2.2.2.2.2.2.2.1, x.2.2.2.2.2.2.2.2.2.2.2.1, x.2.2.2.2.2.2.2.2.2.2.2.2.1, x.2.2.2.2.2.2.2.2.2.2.2.2.2.1, x.2.2.2.2.2.2.2.2.2.2.2.2.2.2.1, x.2.2.2.2.2.2.2.2.2.2.2.2.2.2.2.1, x.2.2.2.2.2.2.2.2.2.2.2.2.2.2.2.2.1, x.2.2.2.2.2.2.2.2.2.2.2.2.2.2.2.2.2.1, x.2.2.2.2.2.2.2.2.2.2.2.2.2.2.2.2.2.2.1, x.2.2.2.2.2.2.2.2.2.2.2.2.2.2.2.2.2.2.2))
                            else
                              k (x.1, false, x.2.2.1, x.2.2.2.1, x.2.2.2.2.1, x.2.2.2.2.2.1, x.2.2.2.2.2.2.1, x.2.2.2.2.2.2.2.1, x.2.2.2.2.2.2.2.2.1, x.2.2.2.2.2.2.2.2.2.1, x.2.2.2.2.2.2.2.2.2.2.1, x.2.2.2.2.2.2.2.2.2.2.2.1, x.2.2.2.2.2.2.2.2.2.2.2.2.1, x.2.2.2.2.2.2.2.2.2.2.2.2.2.1, x.2.2.2.2.2.2.2.2.2.2.2.2.2.2.1, x.2.2.2.2.2.2.2.2.2.2.2.2.2.2.2.1, x.2.2.2.2.2.2.2.2.2.2.2.2.2.2.2.2.1, x.2.2.2.2.2.2.2.2.2.2.2.2.2.2.2.2.2.1, x.2.2.2.2.2.2.2.2.2.2.2.2.2.2.2.2.2.2.1, x.2.2.2.2.2.2.2.2.2.2.2.2.2.2.2.2.2.2.2)))
                      else
                        k (x.1, false, x.2.2.1, x.2.2.2.1, x.2.2.2.2.1, x.2.2.2.2.2.1, x.2.2.2.2.2.2.1, x.2.2.2.2.2.2.2.1, x.2.2.2.2.2.2.2.2.1, x.2.2.2.2.2.2.2.2.2.1, x.2.2.2.2.2.2.2.2.2.2.1, x.2.2.2.2.2.2.2.2.2.2.2.1, x.2.2.2.2.2.2.2.2.2.2.2.2.1, x.2.2.2.2.2.2.2.2.2.2.2.2.2.1, x.2.2.2.2.2.2.2.2.2.2.2.2.2.2.1, x.2.2.2.2.2.2.2.2.2.2.2.2.2.2.2.1, x.2.2.2.2.2.2.2.2.2.2.2.2.2.2.2.2.1, x.2.2.2.2.2.2.2.2.2.2.2.2.2.2.2.2.2.1, x.2.2.2.2.2.2.2.2.2.2.2.2.2.2.2.2.2.2.1, x.2.2.2.2.2.2.2.2.2.2.2.2.2.2.2.2.2.2.2)))
                else
                  k (x.1, false, x.2.2.1, x.2.2.2.1, x.2.2.2.2.1, x.2.2.2.2.2.1, x.2.2.2.2.2.2.1, x.2.2.2.2.2.2.2.1, x.2.2.2.2.2.2.2.2.1, x.2.2.2.2.2.2.2.2.2.1, x.2.2.2.2.2.2.2.2.2.2.1, x.2.2.2.2.2.2.2.2.2.2.2.1, x.2.2.2.2.2.2.2.2.2.2.2.2.1, x.2.2.2.2.2.2.2.2.2.2.2.2.2.1, x.2.2.2.2.2.2.2.2.2.2.2.2.2.2.1, x.2.2.2.2.2.2.2.2.2.2.2.2.2.2.2.1, x.2.2.2.2.2.2.2.2.2.2.2.2.2.2.2.2.1, x.2.2.2.2.2.2.2.2.2.2.2.2.2.2.2.2.2.1, x.2.2.2.2.2.2.2.2.2.2.2.2.2.2.2.2.2.2.1, x.2.2.2.2.2.2.2.2.2.2.2.2.2.2.2.2.2.2.2))
          else
            k (x.1, false, x.2.2.1, x.2.2.2.1, x.2.2.2.2.1, x.2.2.2.2.2.1, x.2.2.2.2.2.2.1, x.2.2.2.2.2.2.2.1, x.2.2.2.2.2.2.2.2.1, x.2.2.2.2.2.2.2.2.2.1, x.2.2.2.2.2.2.2.2.2.2.1, x.2.2.2.2.2.2.2.2.2.2.2.1, x.2.2.2.2.2.2.2.2.2.2.2.2.1, x.2.2.2.2.2.2.2.2.2.2.2.2.2.1, x.2.2.2.2.2.2.2.2.2.2.2.2.2.2.1, x.2.2.2.2.2.2.2.2.2.2.2.2.2.2.2.1, x.2.2.2.2.2.2.2.2.2.2.2.2.2.2.2.2.1, x.2.2.2.2.2.2.2.2.2.2.2.2.2.2.2.2.2.1, x.2.2.2.2.2.2.2.2.2.2.2.2.2.2.2.2.2.2.1, x.2.2.2.2.2.2.2.2.2.2.2.2.2.2.2.2.2.2.2))
      else
        k (x.1, false, x.2.2.1, x.2.2.2.1, x.2.2.2.2.1, x.2.2.2.2.2.1, x.2.2.2.2.2.2.1, x.2.2.2.2.2.2.2.1, x.2.2.2.2.2.2.2.2.1, x.2.2.2.2.2.2.2.2.2.1, x.2.2.2.2.2.2.2.2.2.2.1, x.2.2.2.2.2.2.2.2.2.2.2.1, x.2.2.2.2.2.2.2.2.2.2.2.2.1, x.2.2.2.2.2.2.2.2.2.2.2.2.2.1, x.2.2.2.2.2.2.2.2.2.2.2.2.2.2.1, x.2.2.2.2.2.2.2.2.2.2.2.2.2.2.2.1, x.2.2.2.2.2.2.2.2.2.2.2.2.2.2.2.2.1, x.2.2.2.2.2.2.2.2.2.2.2.2.2.2.2.2.2.1, x.2.2.2.2.2.2.2.2.2.2.2.2.2.2.2.2.2.2.1, x.2.2.2.2.2.2.2.2.2.2.2.2.2.2.2.2.2.2.2))

theorem laws_FnEdges_jp5000006 (x : ((List Int) × Bool × Bool × Bool × Int × Int × Int × Int × Bool × ByteArray × Int × Int × Int × Int × Bool × ByteArray × (List dRange) × (List dWrite) × (List dRange) × (List dWrite))) : Par (laws_FnEdges_j5000006 x) := by
  unfold laws_FnEdges_j5000006
  exact ((spec_DrawAhead_p x.1).bind fun y9 => (par_bif ((impl_Beside_p (x.2.2.2.2.2.2.2.2.2.2.1, (x.2.2.2.2.2.2.2.2.2.2.2.1, (x.2.2.2.2.2.2.2.2.2.2.2.2.1, (x.2.2.2.2.2.2.2.2.2.2.2.2.2.1, (x.2.2.2.2.2.2.2.2.2.2.2.2.2.2.2.2.2.2.1, (x.2.2.2.2.2.2.2.2.2.2.2.2.2.2.2.2.2.2.2, (x.2.2.2.2.2.2.2.2.2.2.2.2.2.2.1, x.2.2.2.2.2.2.2.2.2.2.2.2.2.2.2.1))))))) (x.2.2.2.2.1, (x.2.2.2.2.2.1, (x.2.2.2.2.2.2.1, (x.2.2.2.2.2.2.2.1, (x.2.2.2.2.2.2.2.2.2.2.2.2.2.2.2.2.1, (x.2.2.2.2.2.2.2.2.2.2.2.2.2.2.2.2.2.1, (x.2.2.2.2.2.2.2.2.1, x.2.2.2.2.2.2.2.2.2.1)))))))).bind fun y10 => (par_bif ((impl_Ahead_p (x.2.2.2.2.1, (x.2.2.2.2.2.1, (x.2.2.2.2.2.2.1, (x.2.2.2.2.2.2.2.1, (x.2.2.2.2.2.2.2.2.2.2.2.2.2.2.2.2.1, (x.2.2.2.2.2.2.2.2.2.2.2.2.2.2.2.2.2.1, (x.2.2.2.2.2.2.2.2.1, x.2.2.2.2.2.2.2.2.2.1))))))) (x.2.2.2.2.2.2.2.2.2.2.1, (x.2.2.2.2.2.2.2.2.2.2.2.1, (x.2.2.2.2.2.2.2.2.2.2.2.2.1, (x.2.2.2.2.2.2.2.2.2.2.2.2.2.1, (x.2.2.2.2.2.2.2.2.2.2.2.2.2.2.2.2.2.2.1, (x.2.2.2.2.2.2.2.2.2.2.2.2.2.2.2.2.2.2.2, (x.2.2.2.2.2.2.2.2.2.2.2.2.2.2.1, x.2.2.2.2.2.2.2.2.2.2.2.2.2.2.2.1)))))))).bind fun y11 => (par_bif ((spec_Touches_p x.2.2.2.2.2.2.2.2.2.2.2.2.2.2.2.2.1 x.2.2.2.2.2.2.2.2.2.2.2.2.2.2.2.2.2.2.2).bind fun y12 => (par_bif ((impl_Ahead_p (y9.1, (y9.2.1, (y9.2.2.1, (y9.2.2.2.1, (y9.2.2.2.2.2.2.2.2.2.2.2.2.1, (y9.2.2.2.2.2.2.2.2.2.2.2.2.2.1, (y9.2.2.2.2.1, y9.2.2.2.2.2.1))))))) (y9.2.2.2.2.2.2.1, (y9.2.2.2.2.2.2.2.1, (y9.2.2.2.2.2.2.2.2.1, (y9.2.2.2.2.2.2.2.2.2.1, (y9.2.2.2.2.2.2.2.2.2.2.2.2.2.2.1, (y9.2.2.2.2.2.2.2.2.2.2.2.2.2.2.2, (y9.2.2.2.2.2.2.2.2.2.2.1, y9.2.2.2.2.2.2.2.2.2.2.2.1)))))))).bind fun y13 => ((spec_Ahead_p (y9.1, (y9.2.1, (y9.2.2.1, (y9.2.2.2.1, (y9.2.2.2.2.2.2.2.2.2.2.2.2.1, (y9.2.2.2.2.2.2.2.2.2.2.2.2.2.1, (y9.2.2.2.2.1, y9.2.2.2.2.2.1))))))) (y9.2.2.2.2.2.2.1, (y9.2.2.2.2.2.2.2.1, (y9.2.2.2.2.2.2.2.2.1, (y9.2.2.2.2.2.2.2.2.2.1, (y9.2.2.2.2.2.2.2.2.2.2.2.2.2.2.1, (y9.2.2.2.2.2.2.2.2.2.2.2.2.2.2.2, (y9.2.2.2.2.2.2.2.2.2.2.1, y9.2.2.2.2.2.2.2.2.2.2.2.1)))))))).bind fun y14 => (par_bif ((impl_Beside_p (y9.1, (y9.2.1, (y9.2.2.1, (y9.2.2.2.1, (y9.2.2.2.2.2.2.2.2.2.2.2.2.1, (y9.2.2.2.2.2.2.2.2.2.2.2.2.2.1, (y9.2.2.2.2.1, y9.2.2.2.2.2.1))))))) (y9.2.2.2.2.2.2.1, (y9.2.2.2.2.2.2.2.1, (y9.2.2.2.2.2.2.2.2.1, (y9.2.2.2.2.2.2.2.2.2.1, (y9.2.2.2.2.2.2.2.2.2.2.2.2.2.2.1, (y9.2.2.2.2.2.2.2.2.2.2.2.2.2.2.2, (y9.2.2.2.2.2.2.2.2.2.2.1, y9.2.2.2.2.2.2.2.2.2.2.2.1)))))))).bind fun y15 => ((spec_Beside_p (y9.1, (y9.2.1, (y9.2.2.1, (y9.2.2.2.1, (y9.2.2.2.2.2.2.2.2.2.2.2.2.1, (y9.2.2.2.2.2.2.2.2.2.2.2.2.2.1, (y9.2.2.2.2.1, y9.2.2.2.2.2.1))))))) (y9.2.2.2.2.2.2.1, (y9.2.2.2.2.2.2.2.1, (y9.2.2.2.2.2.2.2.2.1, (y9.2.2.2.2.2.2.2.2.2.1, (y9.2.2.2.2.2.2.2.2.2.2.2.2.2.2.1, (y9.2.2.2.2.2.2.2.2.2.2.2.2.2.2.2, (y9.2.2.2.2.2.2.2.2.2.2.1, y9.2.2.2.2.2.2.2.2.2.2.2.1)))))))).bind fun y16 => (par_bif ((impl_Ahead_p (x.2.2.2.2.1, (x.2.2.2.2.2.1, (x.2.2.2.2.2.2.1, (x.2.2.2.2.2.2.2.1, (x.2.2.2.2.2.2.2.2.2.2.2.2.2.2.2.2.1, (x.2.2.2.2.2.2.2.2.2.2.2.2.2.2.2.2.2.1, (x.2.2.2.2.2.2.2.2.1, x.2.2.2.2.2.2.2.2.2.1))))))) (x.2.2.2.2.1, (x.2.2.2.2.2.1, (x.2.2.2.2.2.2.1, (x.2.2.2.2.2.2.2.1, (x.2.2.2.2.2.2.2.2.2.2.2.2.2.2.2.2.1, (x.2.2.2.2.2.2.2.2.2.2.2.2.2.2.2.2.2.1, (x.2.2.2.2.2.2.2.2.1, x.2.2.2.2.2.2.2.2.2.1)))))))).bind fun y17 => (par_ret _)) (par_ret _)))) (par_ret _)))) (par_ret _))) (par_bif ((impl_Ahead_p (y9.1, (y9.2.1, (y9.2.2.1, (y9.2.2.2.1, (y9.2.2.2.2.2.2.2.2.2.2.2.2.1, (y9.2.2.2.2.2.2.2.2.2.2.2.2.2.1, (y9.2.2.2.2.1, y9.2.2.2.2.2.1))))))) (y9.2.2.2.2.2.2.1, (y9.2.2.2.2.2.2.2.1, (y9.2.2.2.2.2.2.2.2.1, (y9.2.2.2.2.2.2.2.2.2.1, (y9.2.2.2.2.2.2.2.2.2.2.2.2.2.2.1, (y9.2.2.2.2.2.2.2.2.2.2.2.2.2.2.2, (y9.2.2.2.2.2.2.2.2.2.2.1, y9.2.2.2.2.2.2.2.2.2.2.2.1)))))))).bind fun y18 => ((spec_Ahead_p (y9.1, (y9.2.1, (y9.2.2.1, (y9.2.2.2.1, (y9.2.2.2.2.2.2.2.2.2.2.2.2.1, (y9.2.2.2.2.2.2.2.2.2.2.2.2.2.1, (y9.2.2.2.2.1, y9.2.2.2.2.2.1))))))) (y9.2.2.2.2.2.2.1, (y9.2.2.2.2.2.2.2.1, (y9.2.2.2.2.2.2.2.2.1, (y9.2.2.2.2.2.2.2.2.2.1, (y9.2.2.2.2.2.2.2.2.2.2.2.2.2.2.1, (y9.2.2.2.2.2.2.2.2.2.2.2.2.2.2.2, (y9.2.2.2.2.2.2.2.2.2.2.1, y9.2.2.2.2.2.2.2.2.2.2.2.1)))))))).bind fun y19 => (par_bif ((impl_Beside_p (y9.1, (y9.2.1, (y9.2.2.1, (y9.2.2.2.1, (y9.2.2.2.2.2.2.2.2.2.2.2.2.1, (y9.2.2.2.2.2.2.2.2.2.2.2.2.2.1, (y9.2.2.2.2.1, y9.2.2.2.2.2.1))))))) (y9.2.2.2.2.2.2.1, (y9.2.2.2.2.2.2.2.1, (y9.2.2.2.2.2.2.2.2.1, (y9.2.2.2.2.2.2.2.2.2.1, (y9.2.2.2.2.2.2.2.2.2.2.2.2.2.2.1, (y9.2.2.2.2.2.2.2.2.2.2.2.2.2.2.2, (y9.2.2.2.2.2.2.2.2.2.2.1, y9.2.2.2.2.2.2.2.2.2.2.2.1)))))))).bind fun y20 => ((spec_Beside_p (y9.1, (y9.2.1, (y9.2.2.1, (y9.2.2.2.1, (y9.2.2.2.2.2.2.2.2.2.2.2.2.1, (y9.2.2.2.2.2.2.2.2.2.2.2.2.2.1, (y9.2.2.2.2.1, y9.2.2.2.2.2.1))))))) (y9.2.2.2.2.2.2.1, (y9.2.2.2.2.2.2.2.1, (y9.2.2.2.2.2.2.2.2.1, (y9.2.2.2.2.2.2.2.2.2.1, (y9.2.2.2.2.2.2.2.2.2.2.2.2.2.2.1, (y9.2.2.2.2.2.2.2.2.2.2.2.2.2.2.2, (y9.2.2.2.2.2.2.2.2.2.2.1, y9.2.2.2.2.2.2.2.2.2.2.2.1)))))))).bind fun y21 => (par_bif ((impl_Ahead_p (x.2.2.2.2.1, (x.2.2.2.2.2.1, (x.2.2.2.2.2.2.1, (x.2.2.2.2.2.2.2.1, (x.2.2.2.2.2.2.2.2.2.2.2.2.2.2.2.2.1, (x.2.2.2.2.2.2.2.2.2.2.2.2.2.2.2.2.2.1, (x.2.2.2.2.2.2.2.2.1, x.2.2.2.2.2.2.2.2.2.1))))))) (x.2.2.2.2.1, (x.2.2.2.2.2.1, (x.2.2.2.2.2.2.1, (x.2.2.2.2.2.2.2.1, (x.2.2.2.2.2.2.2.2.2.2.2.2.2.2.2.2.1, (x.2.2.2.2.2.2.2.2.2.2.2.2.2.2.2.2.2.1, (x.2.2.2.2.2.2.2.2.1, x.2.2.2.2.2.2.2.2.2.1)))))))).bind fun y22 => (par_ret _)) (par_ret _)))) (par_ret _)))) (par_ret _)))) (par_ret _))) (par_ret _)))

def laws_FnEdges_d (a0 : (List Int)) (k : Bool → Option Res) : Option Res :=
  laws_big_k a0 (fun y1 =>
    bif y1 then
      k true
    else
      spec_DrawTxns_k a0 (fun y2 =>
        impl_Beside_k (y2.1, (y2.2.1, (y2.2.2.1, (y2.2.2.2.1, (y2.2.2.2.2.2.2.2.2.2.2.2.2.1, (y2.2.2.2.2.2.2.2.2.2.2.2.2.2.1, (y2.2.2.2.2.1, y2.2.2.2.2.2.1))))))) (y2.2.2.2.2.2.2.1, (y2.2.2.2.2.2.2.2.1, (y2.2.2.2.2.2.2.2.2.1, (y2.2.2.2.2.2.2.2.2.2.1, (y2.2.2.2.2.2.2.2.2.2.2.2.2.2.2.1, (y2.2.2.2.2.2.2.2.2.2.2.2.2.2.2.2, (y2.2.2.2.2.2.2.2.2.2.2.1, y2.2.2.2.2.2.2.2.2.2.2.2.1))))))) (fun y3 =>
          bif (y2.2.1 == (3 : Int)) then
            bif (decide (y2.2.2.2.1 ≤ y2.2.2.2.2.2.2.2.2.1)) then
              laws_FnEdges_j5000006 (a0, false, y3, true, y2.1, y2.2.1, y2.2.2.1, y2.2.2.2.1, y2.2.2.2.2.1, y2.2.2.2.2.2.1, y2.2.2.2.2.2.2.1, y2.2.2.2.2.2.2.2.1, y2.2.2.2.2.2.2.2.2.1, y2.2.2.2.2.2.2.2.2.2.1, y2.2.2.2.2.2.2.2.2.2.2.1, y2.2.2.2.2.2.2.2.2.2.2.2.1, y2.2.2.2.2.2.2.2.2.2.2.2.2.1, y2.2.2.2.2.2.2.2.2.2.2.2.2.2.1, y2.2.2.2.2.2.2.2.2.2.2.2.2.2.2.1, y2.2.2.2.2.2.2.2.2.2.2.2.2.2.2.2) (fun z4 =>
                k z4.2.1)
            else
              bif (y2.2.2.2.2.2.2.2.1 == (3 : Int)) then
                laws_FnEdges_j5000006 (a0, false, y3, (decide (y2.2.2.2.2.2.2.2.2.2.1 ≤ y2.2.2.1)), y2.1, y2.2.1, y2.2.2.1, y2.2.2.2.1, y2.2.2.2.2.1, y2.2.2.2.2.2.1, y2.2.2.2.2.2.2.1, y2.2.2.2.2.2.2.2.1, y2.2.2.2.2.2.2.2.2.1, y2.2.2.2.2.2.2.2.2.2.1, y2.2.2.2.2.2.2.2.2.2.2.1, y2.2.2.2.2.2.2.2.2.2.2.2.1, y2.2.2.2.2.2.2.2.2.2.2.2.2.1, y2.2.2.2.2.2.2.2.2.2.2.2.2.2.1, y2.2.2.2.2.2.2.2.2.2.2.2.2.2.2.1, y2.2.2.2.2.2.2.2.2.2.2.2.2.2.2.2) (fun z5 =>
                  k z5.2.1)
              else
                laws_FnEdges_j5000006 (a0, false, y3, false, y2.1, y2.2.1, y2.2.2.1, y2.2.2.2.1, y2.2.2.2.2.1, y2.2.2.2.2.2.1, y2.2.2.2.2.2.2.1, y2.2.2.2.2.2.2.2.1, y2.2.2.2.2.2.2.2.2.1, y2.2.2.2.2.2.2.2.2.2.1, y2.2.2.2.2.2.2.2.2.2.2.1, y2.2.2.2.2.2.2.2.2.2.2.2.1, y2.2.2.2.2.2.2.2.2.2.2.2.2.1, y2.2.2.2.2.2.2.2.2.2.2.2.2.2.1, y2.2.2.2.2.2.2.2.2.2.2.2.2.2.2.1, y2.2.2.2.2.2.2.2.2.2.2.2.2.2.2.2) (fun z6 =>
                  k z6.2.1)
          else
            bif (y2.2.2.2.2.2.2.2.1 == (3 : Int)) then
              laws_FnEdges_j5000006 (a0, false, y3, (decide (y2.2.2.2.2.2.2.2.2.2.1 ≤ y2.2.2.1)), y2.1, y2.2.1, y2.2.2.1, y2.2.2.2.1, y2.2.2.2.2.1, y2.2.2.2.2.2.1, y2.2.2.2.2.2.2.1, y2.2.2.2.2.2.2.2.1, y2.2.2.2.2.2.2.2.2.1, y2.2.2.2.2.2.2.2.2.2.1, y2.2.2.2.2.2.2.2.2.2.2.1, y2.2.2.2.2.2.2.2.2.2.2.2.1, y2.2.2.2.2.2.2.2.2.2.2.2.2.1, y2.2.2.2.2.2.2.2.2.2.2.2.2.2.1, y2.2.2.2.2.2.2.2.2.2.2.2.2.2.2.1, y2.2.2.2.2.2.2.2.2.2.2.2.2.2.2.2) (fun z7 =>
                k z7.2.1)
            else
              laws_FnEdges_j5000006 (a0, false, y3, false, y2.1, y2.2.1, y2.2.2.1, y2.2.2.2.1, y2.2.2.2.2.1, y2.2.2.2.2.2.1, y2.2.2.2.2.2.2.1, y2.2.2.2.2.2.2.2.1, y2.2.2.2.2.2.2.2.2.1, y2.2.2.2.2.2.2.2.2.2.1, y2.2.2.2.2.2.2.2.2.2.2.1, y2.2.2.2.2.2.2.2.2.2.2.2.1, y2.2.2.2.2.2.2.2.2.2.2.2.2.1, y2.2.2.2.2.2.2.2.2.2.2.2.2.2.1, y2.2.2.2.2.2.2.2.2.2.2.2.2.2.2.1, y2.2.2.2.2.2.2.2.2.2.2.2.2.2.2.2) (fun z8 =>
                k z8.2.1))))

theorem laws_FnEdges_h : ∃ g : (List Int) → (Bool → Option Res) → Option Res, g = laws_FnEdges_d := ⟨_, rfl⟩
def laws_FnEdges_k : (List Int) → (Bool → Option Res) → Option Res := Classical.choose laws_FnEdges_h
theorem laws_FnEdges_e : laws_FnEdges_k = laws_FnEdges_d := Classical.choose_spec laws_FnEdges_h

theorem laws_FnEdges_p (a0 : (List Int)) : Par (laws_FnEdges_k a0) := by
  rw [laws_FnEdges_e]
  unfold laws_FnEdges_d
  exact ((laws_big_p a0).bind fun y1 => (par_bif (par_ret _) ((spec_DrawTxns_p a0).bind fun y2 => ((impl_Beside_p (y2.1, (y2.2.1, (y2.2.2.1, (y2.2.2.2.1, (y2.2.2.2.2.2.2.2.2.2.2.2.2.1, (y2.2.2.2.2.2.2.2.2.2.2.2.2.2.1, (y2.2.2.2.2.1, y2.2.2.2.2.2.1))))))) (y2.2.2.2.2.2.2.1, (y2.2.2.2.2.2.2.2.1, (y2.2.2.2.2.2.2.2.2.1, (y2.2.2.2.2.2.2.2.2.2.1, (y2.2.2.2.2.2.2.2.2.2.2.2.2.2.2.1, (y2.2.2.2.2.2.2.2.2.2.2.2.2.2.2.2, (y2.2.2.2.2.2.2.2.2.2.2.1, y2.2.2.2.2.2.2.2.2.2.2.2.1)))))))).bind fun y3 => (par_bif (par_bif ((laws_FnEdges_jp5000006 (a0, false, y3, true, y2.1, y2.2.1, y2.2.2.1, y2.2.2.2.1, y2.2.2.2.2.1, y2.2.2.2.2.2.1, y2.2.2.2.2.2.2.1, y2.2.2.2.2.2.2.2.1, y2.2.2.2.2.2.2.2.2.1, y2.2.2.2.2.2.2.2.2.2.1, y2.2.2.2.2.2.2.2.2.2.2.1, y2.2.2.2.2.2.2.2.2.2.2.2.1, y2.2.2.2.2.2.2.2.2.2.2.2.2.1, y2.2.2.2.2.2.2.2.2.2.2.2.2.2.1, y2.2.2.2.2.2.2.2.2.2.2.2.2.2.2.1, y2.2.2.2.2.2.2.2.2.2.2.2.2.2.2.2)).bind fun z4 => (par_ret _)) (par_bif ((laws_FnEdges_jp5000006 (a0, false, y3, (decide (y2.2.2.2.2.2.2.2.2.2.1 ≤ y2.2.2.1)), y2.1, y2.2.1, y2.2.2.1, y2.2.2.2.1, y2.2.2.2.2.1, y2.2.2.2.2.2.1, y2.2.2.2.2.2.2.1, y2.2.2.2.2.2.2.2.1, y2.2.2.2.2.2.2.2.2.1, y2.2.2.2.2.2.2.2.2.2.1, y2.2.2.2.2.2.2.2.2.2.2.1, y2.2.2.2.2.2.2.2.2.2.2.2.1, y2.2.2.2.2.2.2.2.2.2.2.2.2.1, y2.2.2.2.2.2.2.2.2.2.2.2.2.2.1, y2.2.2.2.2.2.2.2.2.2.2.2.2.2.2.1, y2.2.2.2.2.2.2.2.2.2.2.2.2.2.2.2)).bind fun z5 => (par_ret _)) ((laws_FnEdges_jp5000006 (a0, false, y3, false, y2.1, y2.2.1, y2.2.2.1, y2.2.2.2.1, y2.2.2.2.2.1, y2.2.2.2.2.2.1, y2.2.2.2.2.2.2.1, y2.2.2.2.2.2.2.2.1, y2.2.2.2.2.2.2.2.2.1, y2.2.2.2.2.2.2.2.2.2.1, y2.2.2.2.2.2.2.2.2.2.2.1, y2.2.2.2.2.2.2.2.2.2.2.2.1, y2.2.2.2.2.2.2.2.2.2.2.2.2.1, y2.2.2.2.2.2.2.2.2.2.2.2.2.2.1, y2.2.2.2.2.2.2.2.2.2.2.2.2.2.2.1, y2.2.2.2.2.2.2.2.2.2.2.2.2.2.2.2)).bind fun z6 => (par_ret _)))) (par_bif ((laws_FnEdges_jp5000006 (a0, false, y3, (decide (y2.2.2.2.2.2.2.2.2.2.1 ≤ y2.2.2.1)), y2.1, y2.2.1, y2.2.2.1, y2.2.2.2.1, y2.2.2.2.2.1, y2.2.2.2.2.2.1, y2.2.2.2.2.2.2.1, y2.2.2.2.2.2.2.2.1, y2.2.2.2.2.2.2.2.2.1, y2.2.2.2.2.2.2.2.2.2.1, y2.2.2.2.2.2.2.2.2.2.2.1, y2.2.2.2.2.2.2.2.2.2.2.2.1, y2.2.2.2.2.2.2.2.2.2.2.2.2.1, y2.2.2.2.2.2.2.2.2.2.2.2.2.2.1, y2.2.2.2.2.2.2.2.2.2.2.2.2.2.2.1, y2.2.2.2.2.2.2.2.2.2.2.2.2.2.2.2)).bind fun z7 => (par_ret _)) ((laws_FnEdges_jp5000006 (a0, false, y3, false, y2.1, y2.2.1, y2.2.2.1, y2.2.2.2.1, y2.2.2.2.2.1, y2.2.2.2.2.2.1, y2.2.2.2.2.2.2.1, y2.2.2.2.2.2.2.2.1, y2.2.2.2.2.2.2.2.2.1, y2.2.2.2.2.2.2.2.2.2.1, y2.2.2.2.2.2.2.2.2.2.2.1, y2.2.2.2.2.2.2.2.2.2.2.2.1, y2.2.2.2.2.2.2.2.2.2.2.2.2.1, y2.2.2.2.2.2.2.2.2.2.2.2.2.2.1, y2.2.2.2.2.2.2.2.2.2.2.2.2.2.2.1, y2.2.2.2.2.2.2.2.2.2.2.2.2.2.2.2)).bind fun z8 => (par_ret _))))))))

def laws_big_g (args : List AV) (st : St) (k : K1) : Option Res :=
  onPats [.lst (.int .u8)] [] args st (fun p q => laws_big_k p.1 (fun (y : Bool) => k (.bool y) []))
    (none)

theorem laws_big_q (a0 : (List Int)) : Par (fun k : AV × St → Option Res => laws_big_g [.lst (.int .u8) a0] [] (fun v s => k (v, s))) :=
  (laws_big_p a0).bind (H := fun (y : Bool) (k : AV × St → Option Res) => (fun (y : Bool) => k ((.bool y : AV), ([] : St))) y) (fun y => par_ret _)

def spec_l01New_g (args : List AV) (st : St) (k : K1) : Option Res :=
  onPats [.lst (.int .u8)] [] args st (fun p q => spec_l01New_k p.1 (fun (y : ((List Int) × Int × Int)) => k (.bp 0 0) [.box [.lst (.int .u8) y.1, .int .i64 y.2.1, .int .i64 y.2.2]]))
    (none)

theorem spec_l01New_q (a0 : (List Int)) : Par (fun k : AV × St → Option Res => spec_l01New_g [.lst (.int .u8) a0] [] (fun v s => k (v, s))) :=
  (spec_l01New_p a0).bind (H := fun (y : ((List Int) × Int × Int)) (k : AV × St → Option Res) => (fun (y : ((List Int) × Int × Int)) => k ((.bp 0 0 : AV), ([.box [.lst (.int .u8) y.1, .int .i64 y.2.1, .int .i64 y.2.2]] : St))) y) (fun y => par_ret _)

def spec_l01Byte_g (args : List AV) (st : St) (k : K1) : Option Res :=
  onPats [.bp 0 0] [.box [.lst (.int .u8), .int .i64, .int .i64]] args st (fun p q => spec_l01Byte_k q.1.1 q.1.2.1 q.1.2.2.1 (fun (y : (Int × (List Int) × Int × Int)) => k (.int .i64 y.1) [.box [.lst (.int .u8) y.2.1, .int .i64 y.2.2.1, .int .i64 y.2.2.2]]))
    (none)

theorem spec_l01Byte_q (a0 : (List Int)) (a1 : Int) (a2 : Int) : Par (fun k : AV × St → Option Res => spec_l01Byte_g [.bp 0 0] [.box [.lst (.int .u8) a0, .int .i64 a1, .int .i64 a2]] (fun v s => k (v, s))) :=
  (spec_l01Byte_p a0 a1 a2).bind (H := fun (y : (Int × (List Int) × Int × Int)) (k : AV × St → Option Res) => (fun (y : (Int × (List Int) × Int × Int)) => k ((.int .i64 y.1 : AV), ([.box [.lst (.int .u8) y.2.1, .int .i64 y.2.2.1, .int .i64 y.2.2.2]] : St))) y) (fun y => par_ret _)

def spec_l01Below_g (args : List AV) (st : St) (k : K1) : Option Res :=
  onPats [.bp 0 0, .int .i64] [.box [.lst (.int .u8), .int .i64, .int .i64]] args st (fun p q => spec_l01Below_k p.2.1 q.1.1 q.1.2.1 q.1.2.2.1 (fun (y : (Int × (List Int) × Int × Int)) => k (.int .i64 y.1) [.box [.lst (.int .u8) y.2.1, .int .i64 y.2.2.1, .int .i64 y.2.2.2]]))
    (none)

theorem spec_l01Below_q (a0 : Int) (a1 : (List Int)) (a2 : Int) (a3 : Int) : Par (fun k : AV × St → Option Res => spec_l01Below_g [.bp 0 0, .int .i64 a0] [.box [.lst (.int .u8) a1, .int .i64 a2, .int .i64 a3]] (fun v s => k (v, s))) :=
  (spec_l01Below_p a0 a1 a2 a3).bind (H := fun (y : (Int × (List Int) × Int × Int)) (k : AV × St → Option Res) => (fun (y : (Int × (List Int) × Int × Int)) => k ((.int .i64 y.1 : AV), ([.box [.lst (.int .u8) y.2.1, .int .i64 y.2.2.1, .int .i64 y.2.2.2]] : St))) y) (fun y => par_ret _)

def spec_l01Pick_g (args : List AV) (st : St) (k : K1) : Option Res :=
  onPats [.bp 0 0, .lst .str] [.box [.lst (.int .u8), .int .i64, .int .i64]] args st (fun p q => spec_l01Pick_k p.2.1 q.1.1 q.1.2.1 q.1.2.2.1 (fun (y : (ByteArray × (List Int) × Int × Int)) => k (.str y.1) [.box [.lst (.int .u8) y.2.1, .int .i64 y.2.2.1, .int .i64 y.2.2.2]]))
    (none)

theorem spec_l01Pick_q (a0 : (List ByteArray)) (a1 : (List Int)) (a2 : Int) (a3 : Int) : Par (fun k : AV × St → Option Res => spec_l01Pick_g [.bp 0 0, .lst .str a0] [.box [.lst (.int .u8) a1, .int .i64 a2, .int .i64 a3]] (fun v s => k (v, s))) :=
  (spec_l01Pick_p a0 a1 a2 a3).bind (H := fun (y : (ByteArray × (List Int) × Int × Int)) (k : AV × St → Option Res) => (fun (y : (ByteArray × (List Int) × Int × Int)) => k ((.str y.1 : AV), ([.box [.lst (.int .u8) y.2.1, .int .i64 y.2.2.1, .int .i64 y.2.2.2]] : St))) y) (fun y => par_ret _)

def spec_l05Key_g (args : List AV) (st : St) (k : K1) : Option Res :=
  onPats [.bp 0 0] [.box [.lst (.int .u8), .int .i64, .int .i64]] args st (fun p q => spec_l05Key_k q.1.1 q.1.2.1 q.1.2.2.1 (fun (y : (ByteArray × (List Int) × Int × Int)) => k (.str y.1) [.box [.lst (.int .u8) y.2.1, .int .i64 y.2.2.1, .int .i64 y.2.2.2]]))
    (none)

theorem spec_l05Key_q (a0 : (List Int)) (a1 : Int) (a2 : Int) : Par (fun k : AV × St → Option Res => spec_l05Key_g [.bp 0 0] [.box [.lst (.int .u8) a0, .int .i64 a1, .int .i64 a2]] (fun v s => k (v, s))) :=
  (spec_l05Key_p a0 a1 a2).bind (H := fun (y : (ByteArray × (List Int) × Int × Int)) (k : AV × St → Option Res) => (fun (y : (ByteArray × (List Int) × Int × Int)) => k ((.str y.1 : AV), ([.box [.lst (.int .u8) y.2.1, .int .i64 y.2.2.1, .int .i64 y.2.2.2]] : St))) y) (fun y => par_ret _)

def spec_l01Once_g (args : List AV) (st : St) (k : K1) : Option Res :=
  onPats [.bp 0 0, .int .i64] [.box [.lst (.int .u8), .int .i64, .int .i64]] args st (fun p q => spec_l01Once_k p.2.1 q.1.1 q.1.2.1 q.1.2.2.1 (fun (y : (Bool × (List Int) × Int × Int)) => k (.bool y.1) [.box [.lst (.int .u8) y.2.1, .int .i64 y.2.2.1, .int .i64 y.2.2.2]]))
    (none)

theorem spec_l01Once_q (a0 : Int) (a1 : (List Int)) (a2 : Int) (a3 : Int) : Par (fun k : AV × St → Option Res => spec_l01Once_g [.bp 0 0, .int .i64 a0] [.box [.lst (.int .u8) a1, .int .i64 a2, .int .i64 a3]] (fun v s => k (v, s))) :=
  (spec_l01Once_p a0 a1 a2 a3).bind (H := fun (y : (Bool × (List Int) × Int × Int)) (k : AV × St → Option Res) => (fun (y : (Bool × (List Int) × Int × Int)) => k ((.bool y.1 : AV), ([.box [.lst (.int .u8) y.2.1, .int .i64 y.2.2.1, .int .i64 y.2.2.2]] : St))) y) (fun y => par_ret _)

def spec_l05Range_g (args : List AV) (st : St) (k : K1) : Option Res :=
  onPats [.bp 0 0] [.box [.lst (.int .u8), .int .i64, .int .i64]] args st (fun p q => spec_l05Range_k q.1.1 q.1.2.1 q.1.2.2.1 (fun (y : (ByteArray × ByteArray × (List Int) × Int × Int)) => k (.agg [.str y.1, .str y.2.1]) [.box [.lst (.int .u8) y.2.2.1, .int .i64 y.2.2.2.1, .int .i64 y.2.2.2.2]]))
    (none)

theorem spec_l05Range_q (a0 : (List Int)) (a1 : Int) (a2 : Int) : Par (fun k : AV × St → Option Res => spec_l05Range_g [.bp 0 0] [.box [.lst (.int .u8) a0, .int .i64 a1, .int .i64 a2]] (fun v s => k (v, s))) :=
  (spec_l05Range_p a0 a1 a2).bind (H := fun (y : (ByteArray × ByteArray × (List Int) × Int × Int)) (k : AV × St → Option Res) => (fun (y : (ByteArray × ByteArray × (List Int) × Int × Int)) => k ((.agg [.str y.1, .str y.2.1] : AV), ([.box [.lst (.int .u8) y.2.2.1, .int .i64 y.2.2.2.1, .int .i64 y.2.2.2.2]] : St))) y) (fun y => par_ret _)

def spec_l05Ranges_g (args : List AV) (st : St) (k : K1) : Option Res :=
  onPats [.bp 0 0] [.box [.lst (.int .u8), .int .i64, .int .i64]] args st (fun p q => spec_l05Ranges_k q.1.1 q.1.2.1 q.1.2.2.1 (fun (y : ((List Int) × Int × Int × (List dRange))) => k (.own 1) [.box [.lst (.int .u8) y.1, .int .i64 y.2.1, .int .i64 y.2.2.1], .arr tRange y.2.2.2]))
    (none)

theorem spec_l05Ranges_q (a0 : (List Int)) (a1 : Int) (a2 : Int) : Par (fun k : AV × St → Option Res => spec_l05Ranges_g [.bp 0 0] [.box [.lst (.int .u8) a0, .int .i64 a1, .int .i64 a2]] (fun v s => k (v, s))) :=
  (spec_l05Ranges_p a0 a1 a2).bind (H := fun (y : ((List Int) × Int × Int × (List dRange))) (k : AV × St → Option Res) => (fun (y : ((List Int) × Int × Int × (List dRange))) => k ((.own 1 : AV), ([.box [.lst (.int .u8) y.1, .int .i64 y.2.1, .int .i64 y.2.2.1], .arr tRange y.2.2.2] : St))) y) (fun y => par_ret _)

def spec_l05Write_g (args : List AV) (st : St) (k : K1) : Option Res :=
  onPats [.bp 0 0] [.box [.lst (.int .u8), .int .i64, .int .i64]] args st (fun p q => spec_l05Write_k q.1.1 q.1.2.1 q.1.2.2.1 (fun (y : (ByteArray × ByteArray × Bool × (List Int) × Int × Int)) => k (.agg [.str y.1, .str y.2.1, .bool y.2.2.1]) [.box [.lst (.int .u8) y.2.2.2.1, .int .i64 y.2.2.2.2.1, .int .i64 y.2.2.2.2.2]]))
    (none)

theorem spec_l05Write_q (a0 : (List Int)) (a1 : Int) (a2 : Int) : Par (fun k : AV × St → Option Res => spec_l05Write_g [.bp 0 0] [.box [.lst (.int .u8) a0, .int .i64 a1, .int .i64 a2]] (fun v s => k (v, s))) :=
  (spec_l05Write_p a0 a1 a2).bind (H := fun (y : (ByteArray × ByteArray × Bool × (List Int) × Int × Int)) (k : AV × St → Option Res) => (fun (y : (ByteArray × ByteArray × Bool × (List Int) × Int × Int)) => k ((.agg [.str y.1, .str y.2.1, .bool y.2.2.1] : AV), ([.box [.lst (.int .u8) y.2.2.2.1, .int .i64 y.2.2.2.2.1, .int .i64 y.2.2.2.2.2]] : St))) y) (fun y => par_ret _)

def spec_PutWrite_g (args : List AV) (st : St) (k : K1) : Option Res :=
  onPats [.lst tWrite, .agg [.str, .str, .bool]] [] args st (fun p q => spec_PutWrite_k p.1 (p.2.1.1, (p.2.1.2.1, p.2.1.2.2.1)) (fun (y : (List dWrite)) => k (.own 0) [.arr tWrite y]))
    (none)

theorem spec_PutWrite_q (a0 : (List dWrite)) (a1 : ByteArray) (a2 : ByteArray) (a3 : Bool) : Par (fun k : AV × St → Option Res => spec_PutWrite_g [.lst tWrite a0, .agg [.str a1, .str a2, .bool a3]] [] (fun v s => k (v, s))) :=
  (spec_PutWrite_p a0 (a1, (a2, a3))).bind (H := fun (y : (List dWrite)) (k : AV × St → Option Res) => (fun (y : (List dWrite)) => k ((.own 0 : AV), ([.arr tWrite y] : St))) y) (fun y => par_ret _)

def spec_l05Writes_g (args : List AV) (st : St) (k : K1) : Option Res :=
  onPats [.bp 0 0] [.box [.lst (.int .u8), .int .i64, .int .i64]] args st (fun p q => spec_l05Writes_k q.1.1 q.1.2.1 q.1.2.2.1 (fun (y : ((List Int) × Int × Int × (List dWrite))) => k (.own 1) [.box [.lst (.int .u8) y.1, .int .i64 y.2.1, .int .i64 y.2.2.1], .arr tWrite y.2.2.2]))
    (none)

theorem spec_l05Writes_q (a0 : (List Int)) (a1 : Int) (a2 : Int) : Par (fun k : AV × St → Option Res => spec_l05Writes_g [.bp 0 0] [.box [.lst (.int .u8) a0, .int .i64 a1, .int .i64 a2]] (fun v s => k (v, s))) :=
  (spec_l05Writes_p a0 a1 a2).bind (H := fun (y : ((List Int) × Int × Int × (List dWrite))) (k : AV × St → Option Res) => (fun (y : ((List Int) × Int × Int × (List dWrite))) => k ((.own 1 : AV), ([.box [.lst (.int .u8) y.1, .int .i64 y.2.1, .int .i64 y.2.2.1], .arr tWrite y.2.2.2] : St))) y) (fun y => par_ret _)

def spec_l07Txn_g (args : List AV) (st : St) (k : K1) : Option Res :=
  onPats [.bp 0 0] [.box [.lst (.int .u8), .int .i64, .int .i64]] args st (fun p q => spec_l07Txn_k q.1.1 q.1.2.1 q.1.2.2.1 (fun (y : (Int × Int × Int × Int × Bool × ByteArray × (List Int) × Int × Int × (List dRange) × (List dWrite))) => k (.agg [.int .i64 y.1, .int .i64 y.2.1, .int .i64 y.2.2.1, .int .i64 y.2.2.2.1, .own 1, .own 2, .bool y.2.2.2.2.1, .str y.2.2.2.2.2.1]) [.box [.lst (.int .u8) y.2.2.2.2.2.2.1, .int .i64 y.2.2.2.2.2.2.2.1, .int .i64 y.2.2.2.2.2.2.2.2.1], .arr tRange y.2.2.2.2.2.2.2.2.2.1, .arr tWrite y.2.2.2.2.2.2.2.2.2.2]))
    (none)

theorem spec_l07Txn_q (a0 : (List Int)) (a1 : Int) (a2 : Int) : Par (fun k : AV × St → Option Res => spec_l07Txn_g [.bp 0 0] [.box [.lst (.int .u8) a0, .int .i64 a1, .int .i64 a2]] (fun v s => k (v, s))) :=
  (spec_l07Txn_p a0 a1 a2).bind (H := fun (y : (Int × Int × Int × Int × Bool × ByteArray × (List Int) × Int × Int × (List dRange) × (List dWrite))) (k : AV × St → Option Res) => (fun (y : (Int × Int × Int × Int × Bool × ByteArray × (List Int) × Int × Int × (List dRange) × (List dWrite))) => k ((.agg [.int .i64 y.1, .int .i64 y.2.1, .int .i64 y.2.2.1, .int .i64 y.2.2.2.1, .own 1, .own 2, .bool y.2.2.2.2.1, .str y.2.2.2.2.2.1] : AV), ([.box [.lst (.int .u8) y.2.2.2.2.2.2.1, .int .i64 y.2.2.2.2.2.2.2.1, .int .i64 y.2.2.2.2.2.2.2.2.1], .arr tRange y.2.2.2.2.2.2.2.2.2.1, .arr tWrite y.2.2.2.2.2.2.2.2.2.2] : St))) y) (fun y => par_ret _)

def spec_DrawTxns_g (args : List AV) (st : St) (k : K1) : Option Res :=
  onPats [.lst (.int .u8)] [] args st (fun p q => spec_DrawTxns_k p.1 (fun (y : (Int × Int × Int × Int × Bool × ByteArray × Int × Int × Int × Int × Bool × ByteArray × (List dRange) × (List dWrite) × (List dRange) × (List dWrite))) => k (.tup [.agg [.int .i64 y.1, .int .i64 y.2.1, .int .i64 y.2.2.1, .int .i64 y.2.2.2.1, .own 0, .own 1, .bool y.2.2.2.2.1, .str y.2.2.2.2.2.1], .agg [.int .i64 y.2.2.2.2.2.2.1, .int .i64 y.2.2.2.2.2.2.2.1, .int .i64 y.2.2.2.2.2.2.2.2.1, .int .i64 y.2.2.2.2.2.2.2.2.2.1, .own 2, .own 3, .bool y.2.2.2.2.2.2.2.2.2.2.1, .str y.2.2.2.2.2.2.2.2.2.2.2.1]]) [.arr tRange y.2.2.2.2.2.2.2.2.2.2.2.2.1, .arr tWrite y.2.2.2.2.2.2.2.2.2.2.2.2.2.1, .arr tRange y.2.2.2.2.2.2.2.2.2.2.2.2.2.2.1, .arr tWrite y.2.2.2.2.2.2.2.2.2.2.2.2.2.2.2]))
    (none)

theorem spec_DrawTxns_q (a0 : (List Int)) : Par (fun k : AV × St → Option Res => spec_DrawTxns_g [.lst (.int .u8) a0] [] (fun v s => k (v, s))) :=
  (spec_DrawTxns_p a0).bind (H := fun (y : (Int × Int × Int × Int × Bool × ByteArray × Int × Int × Int × Int × Bool × ByteArray × (List dRange) × (List dWrite) × (List dRange) × (List dWrite))) (k : AV × St → Option Res) => (fun (y : (Int × Int × Int × Int × Bool × ByteArray × Int × Int × Int × Int × Bool × ByteArray × (List dRange) × (List dWrite) × (List dRange) × (List dWrite))) => k ((.tup [.agg [.int .i64 y.1, .int .i64 y.2.1, .int .i64 y.2.2.1, .int .i64 y.2.2.2.1, .own 0, .own 1, .bool y.2.2.2.2.1, .str y.2.2.2.2.2.1], .agg [.int .i64 y.2.2.2.2.2.2.1, .int .i64 y.2.2.2.2.2.2.2.1, .int .i64 y.2.2.2.2.2.2.2.2.1, .int .i64 y.2.2.2.2.2.2.2.2.2.1, .own 2, .own 3, .bool y.2.2.2.2.2.2.2.2.2.2.1, .str y.2.2.2.2.2.2.2.2.2.2.2.1]] : AV), ([.arr tRange y.2.2.2.2.2.2.2.2.2.2.2.2.1, .arr tWrite y.2.2.2.2.2.2.2.2.2.2.2.2.2.1, .arr tRange y.2.2.2.2.2.2.2.2.2.2.2.2.2.2.1, .arr tWrite y.2.2.2.2.2.2.2.2.2.2.2.2.2.2.2] : St))) y) (fun y => par_ret _)

def impl_Beside_1_g (args : List AV) (st : St) (k : K1) : Option Res :=
  onPats [.agg [.int .i64, .int .i64, .int .i64, .int .i64, .lst tRange, .lst tWrite, .bool, .str], .agg [.int .i64, .int .i64, .int .i64, .int .i64, .lst tRange, .lst tWrite, .bool, .str]] [] args st (fun p q => impl_Beside_1_k (p.1.1, (p.1.2.1, (p.1.2.2.1, (p.1.2.2.2.1, (p.1.2.2.2.2.1, (p.1.2.2.2.2.2.1, (p.1.2.2.2.2.2.2.1, p.1.2.2.2.2.2.2.2.1))))))) (p.2.1.1, (p.2.1.2.1, (p.2.1.2.2.1, (p.2.1.2.2.2.1, (p.2.1.2.2.2.2.1, (p.2.1.2.2.2.2.2.1, (p.2.1.2.2.2.2.2.2.1, p.2.1.2.2.2.2.2.2.2.1))))))) (fun (y : Bool) => k (.bool y) []))
    (none)

theorem impl_Beside_1_q (a0 : Int) (a1 : Int) (a2 : Int) (a3 : Int) (a4 : (List dRange)) (a5 : (List dWrite)) (a6 : Bool) (a7 : ByteArray) (a8 : Int) (a9 : Int) (a10 : Int) (a11 : Int) (a12 : (List dRange)) (a13 : (List dWrite)) (a14 : Bool) (a15 : ByteArray) : Par (fun k : AV × St → Option Res => impl_Beside_1_g [.agg [.int .i64 a0, .int .i64 a1, .int .i64 a2, .int .i64 a3, .lst tRange a4, .lst tWrite a5, .bool a6, .str a7], .agg [.int .i64 a8, .int .i64 a9, .int .i64 a10, .int .i64 a11, .lst tRange a12, .lst tWrite a13, .bool a14, .str a15]] [] (fun v s => k (v, s))) :=
  (impl_Beside_1_p (a0, (a1, (a2, (a3, (a4, (a5, (a6, a7))))))) (a8, (a9, (a10, (a11, (a12, (a13, (a14, a15)))))))).bind (H := fun (y : Bool) (k : AV × St → Option Res) => (fun (y : Bool) => k ((.bool y : AV), ([] : St))) y) (fun y => par_ret _)

def impl_Beside_g (args : List AV) (st : St) (k : K1) : Option Res :=
  onPats [.agg [.int .i64, .int .i64, .int .i64, .int .i64, .lst tRange, .lst tWrite, .bool, .str], .agg [.int .i64, .int .i64, .int .i64, .int .i64, .lst tRange, .lst tWrite, .bool, .str]] [] args st (fun p q => impl_Beside_k (p.1.1, (p.1.2.1, (p.1.2.2.1, (p.1.2.2.2.1, (p.1.2.2.2.2.1, (p.1.2.2.2.2.2.1, (p.1.2.2.2.2.2.2.1, p.1.2.2.2.2.2.2.2.1))))))) (p.2.1.1, (p.2.1.2.1, (p.2.1.2.2.1, (p.2.1.2.2.2.1, (p.2.1.2.2.2.2.1, (p.2.1.2.2.2.2.2.1, (p.2.1.2.2.2.2.2.2.1, p.2.1.2.2.2.2.2.2.2.1))))))) (fun (y : Bool) => k (.bool y) []))
    (none)

theorem impl_Beside_q (a0 : Int) (a1 : Int) (a2 : Int) (a3 : Int) (a4 : (List dRange)) (a5 : (List dWrite)) (a6 : Bool) (a7 : ByteArray) (a8 : Int) (a9 : Int) (a10 : Int) (a11 : Int) (a12 : (List dRange)) (a13 : (List dWrite)) (a14 : Bool) (a15 : ByteArray) : Par (fun k : AV × St → Option Res => impl_Beside_g [.agg [.int .i64 a0, .int .i64 a1, .int .i64 a2, .int .i64 a3, .lst tRange a4, .lst tWrite a5, .bool a6, .str a7], .agg [.int .i64 a8, .int .i64 a9, .int .i64 a10, .int .i64 a11, .lst tRange a12, .lst tWrite a13, .bool a14, .str a15]] [] (fun v s => k (v, s))) :=
  (impl_Beside_p (a0, (a1, (a2, (a3, (a4, (a5, (a6, a7))))))) (a8, (a9, (a10, (a11, (a12, (a13, (a14, a15)))))))).bind (H := fun (y : Bool) (k : AV × St → Option Res) => (fun (y : Bool) => k ((.bool y : AV), ([] : St))) y) (fun y => par_ret _)

def spec_l07Copy_g (args : List AV) (st : St) (k : K1) : Option Res :=
  onPats [.agg [.int .i64, .int .i64, .int .i64, .int .i64, .lst tRange, .lst tWrite, .bool, .str]] [] args st (fun p q => spec_l07Copy_k (p.1.1, (p.1.2.1, (p.1.2.2.1, (p.1.2.2.2.1, (p.1.2.2.2.2.1, (p.1.2.2.2.2.2.1, (p.1.2.2.2.2.2.2.1, p.1.2.2.2.2.2.2.2.1))))))) (fun (y : (Int × Int × Int × Int × Bool × ByteArray × (List dRange) × (List dWrite))) => k (.agg [.int .i64 y.1, .int .i64 y.2.1, .int .i64 y.2.2.1, .int .i64 y.2.2.2.1, .own 0, .own 1, .bool y.2.2.2.2.1, .str y.2.2.2.2.2.1]) [.arr tRange y.2.2.2.2.2.2.1, .arr tWrite y.2.2.2.2.2.2.2]))
    (none)

theorem spec_l07Copy_q (a0 : Int) (a1 : Int) (a2 : Int) (a3 : Int) (a4 : (List dRange)) (a5 : (List dWrite)) (a6 : Bool) (a7 : ByteArray) : Par (fun k : AV × St → Option Res => spec_l07Copy_g [.agg [.int .i64 a0, .int .i64 a1, .int .i64 a2, .int .i64 a3, .lst tRange a4, .lst tWrite a5, .bool a6, .str a7]] [] (fun v s => k (v, s))) :=
  (spec_l07Copy_p (a0, (a1, (a2, (a3, (a4, (a5, (a6, a7)))))))).bind (H := fun (y : (Int × Int × Int × Int × Bool × ByteArray × (List dRange) × (List dWrite))) (k : AV × St → Option Res) => (fun (y : (Int × Int × Int × Int × Bool × ByteArray × (List dRange) × (List dWrite))) => k ((.agg [.int .i64 y.1, .int .i64 y.2.1, .int .i64 y.2.2.1, .int .i64 y.2.2.2.1, .own 0, .own 1, .bool y.2.2.2.2.1, .str y.2.2.2.2.2.1] : AV), ([.arr tRange y.2.2.2.2.2.2.1, .arr tWrite y.2.2.2.2.2.2.2] : St))) y) (fun y => par_ret _)

def spec_l01Long_g (args : List AV) (st : St) (k : K1) : Option Res :=
  onPats [.int .i64, .int .u8] [] args st (fun p q => spec_l01Long_k p.1 p.2.1 (fun (y : ByteArray) => k (.str y) []))
    (none)

theorem spec_l01Long_q (a0 : Int) (a1 : Int) : Par (fun k : AV × St → Option Res => spec_l01Long_g [.int .i64 a0, .int .u8 a1] [] (fun v s => k (v, s))) :=
  (spec_l01Long_p a0 a1).bind (H := fun (y : ByteArray) (k : AV × St → Option Res) => (fun (y : ByteArray) => k ((.str y : AV), ([] : St))) y) (fun y => par_ret _)

def spec_l05Any_g (args : List AV) (st : St) (k : K1) : Option Res :=
  onPats [.bp 0 0] [.box [.lst (.int .u8), .int .i64, .int .i64]] args st (fun p q => spec_l05Any_k q.1.1 q.1.2.1 q.1.2.2.1 (fun (y : (ByteArray × ByteArray × Bool × (List Int) × Int × Int)) => k (.agg [.str y.1, .str y.2.1, .bool y.2.2.1]) [.box [.lst (.int .u8) y.2.2.2.1, .int .i64 y.2.2.2.2.1, .int .i64 y.2.2.2.2.2]]))
    (none)

theorem spec_l05Any_q (a0 : (List Int)) (a1 : Int) (a2 : Int) : Par (fun k : AV × St → Option Res => spec_l05Any_g [.bp 0 0] [.box [.lst (.int .u8) a0, .int .i64 a1, .int .i64 a2]] (fun v s => k (v, s))) :=
  (spec_l05Any_p a0 a1 a2).bind (H := fun (y : (ByteArray × ByteArray × Bool × (List Int) × Int × Int)) (k : AV × St → Option Res) => (fun (y : (ByteArray × ByteArray × Bool × (List Int) × Int × Int)) => k ((.agg [.str y.1, .str y.2.1, .bool y.2.2.1] : AV), ([.box [.lst (.int .u8) y.2.2.2.1, .int .i64 y.2.2.2.2.1, .int .i64 y.2.2.2.2.2]] : St))) y) (fun y => par_ret _)

def spec_l07Any_g (args : List AV) (st : St) (k : K1) : Option Res :=
  onPats [.bp 0 0] [.box [.lst (.int .u8), .int .i64, .int .i64]] args st (fun p q => spec_l07Any_k q.1.1 q.1.2.1 q.1.2.2.1 (fun (y : (Int × Int × Int × Int × Bool × ByteArray × (List Int) × Int × Int × (List dRange) × (List dWrite))) => k (.agg [.int .i64 y.1, .int .i64 y.2.1, .int .i64 y.2.2.1, .int .i64 y.2.2.2.1, .own 1, .own 2, .bool y.2.2.2.2.1, .str y.2.2.2.2.2.1]) [.box [.lst (.int .u8) y.2.2.2.2.2.2.1, .int .i64 y.2.2.2.2.2.2.2.1, .int .i64 y.2.2.2.2.2.2.2.2.1], .arr tRange y.2.2.2.2.2.2.2.2.2.1, .arr tWrite y.2.2.2.2.2.2.2.2.2.2]))
    (none)

theorem spec_l07Any_q (a0 : (List Int)) (a1 : Int) (a2 : Int) : Par (fun k : AV × St → Option Res => spec_l07Any_g [.bp 0 0] [.box [.lst (.int .u8) a0, .int .i64 a1, .int .i64 a2]] (fun v s => k (v, s))) :=
  (spec_l07Any_p a0 a1 a2).bind (H := fun (y : (Int × Int × Int × Int × Bool × ByteArray × (List Int) × Int × Int × (List dRange) × (List dWrite))) (k : AV × St → Option Res) => (fun (y : (Int × Int × Int × Int × Bool × ByteArray × (List Int) × Int × Int × (List dRange) × (List dWrite))) => k ((.agg [.int .i64 y.1, .int .i64 y.2.1, .int .i64 y.2.2.1, .int .i64 y.2.2.2.1, .own 1, .own 2, .bool y.2.2.2.2.1, .str y.2.2.2.2.2.1] : AV), ([.box [.lst (.int .u8) y.2.2.2.2.2.2.1, .int .i64 y.2.2.2.2.2.2.2.1, .int .i64 y.2.2.2.2.2.2.2.2.1], .arr tRange y.2.2.2.2.2.2.2.2.2.1, .arr tWrite y.2.2.2.2.2.2.2.2.2.2] : St))) y) (fun y => par_ret _)

def spec_l08Pair_g (args : List AV) (st : St) (k : K1) : Option Res :=
  onPats [.lst (.int .u8)] [] args st (fun p q => spec_l08Pair_k p.1 (fun (y : (Int × Int × Int × Int × Bool × ByteArray × Int × Int × Int × Int × Bool × ByteArray × (List dRange) × (List dWrite) × (List dRange) × (List dWrite))) => k (.tup [.agg [.int .i64 y.1, .int .i64 y.2.1, .int .i64 y.2.2.1, .int .i64 y.2.2.2.1, .own 0, .own 1, .bool y.2.2.2.2.1, .str y.2.2.2.2.2.1], .agg [.int .i64 y.2.2.2.2.2.2.1, .int .i64 y.2.2.2.2.2.2.2.1, .int .i64 y.2.2.2.2.2.2.2.2.1, .int .i64 y.2.2.2.2.2.2.2.2.2.1, .own 2, .own 3, .bool y.2.2.2.2.2.2.2.2.2.2.1, .str y.2.2.2.2.2.2.2.2.2.2.2.1]]) [.arr tRange y.2.2.2.2.2.2.2.2.2.2.2.2.1, .arr tWrite y.2.2.2.2.2.2.2.2.2.2.2.2.2.1, .arr tRange y.2.2.2.2.2.2.2.2.2.2.2.2.2.2.1, .arr tWrite y.2.2.2.2.2.2.2.2.2.2.2.2.2.2.2]))
    (none)

theorem spec_l08Pair_q (a0 : (List Int)) : Par (fun k : AV × St → Option Res => spec_l08Pair_g [.lst (.int .u8) a0] [] (fun v s => k (v, s))) :=
  (spec_l08Pair_p a0).bind (H := fun (y : (Int × Int × Int × Int × Bool × ByteArray × Int × Int × Int × Int × Bool × ByteArray × (List dRange) × (List dWrite) × (List dRange) × (List dWrite))) (k : AV × St → Option Res) => (fun (y : (Int × Int × Int × Int × Bool × ByteArray × Int × Int × Int × Int × Bool × ByteArray × (List dRange) × (List dWrite) × (List dRange) × (List dWrite))) => k ((.tup [.agg [.int .i64 y.1, .int .i64 y.2.1, .int .i64 y.2.2.1, .int .i64 y.2.2.2.1, .own 0, .own 1, .bool y.2.2.2.2.1, .str y.2.2.2.2.2.1], .agg [.int .i64 y.2.2.2.2.2.2.1, .int .i64 y.2.2.2.2.2.2.2.1, .int .i64 y.2.2.2.2.2.2.2.2.1, .int .i64 y.2.2.2.2.2.2.2.2.2.1, .own 2, .own 3, .bool y.2.2.2.2.2.2.2.2.2.2.1, .str y.2.2.2.2.2.2.2.2.2.2.2.1]] : AV), ([.arr tRange y.2.2.2.2.2.2.2.2.2.2.2.2.1, .arr tWrite y.2.2.2.2.2.2.2.2.2.2.2.2.2.1, .arr tRange y.2.2.2.2.2.2.2.2.2.2.2.2.2.2.1, .arr tWrite y.2.2.2.2.2.2.2.2.2.2.2.2.2.2.2] : St))) y) (fun y => par_ret _)

def spec_DrawAhead_g (args : List AV) (st : St) (k : K1) : Option Res :=
  onPats [.lst (.int .u8)] [] args st (fun p q => spec_DrawAhead_k p.1 (fun (y : (Int × Int × Int × Int × Bool × ByteArray × Int × Int × Int × Int × Bool × ByteArray × (List dRange) × (List dWrite) × (List dRange) × (List dWrite))) => k (.tup [.agg [.int .i64 y.1, .int .i64 y.2.1, .int .i64 y.2.2.1, .int .i64 y.2.2.2.1, .own 0, .own 1, .bool y.2.2.2.2.1, .str y.2.2.2.2.2.1], .agg [.int .i64 y.2.2.2.2.2.2.1, .int .i64 y.2.2.2.2.2.2.2.1, .int .i64 y.2.2.2.2.2.2.2.2.1, .int .i64 y.2.2.2.2.2.2.2.2.2.1, .own 2, .own 3, .bool y.2.2.2.2.2.2.2.2.2.2.1, .str y.2.2.2.2.2.2.2.2.2.2.2.1]]) [.arr tRange y.2.2.2.2.2.2.2.2.2.2.2.2.1, .arr tWrite y.2.2.2.2.2.2.2.2.2.2.2.2.2.1, .arr tRange y.2.2.2.2.2.2.2.2.2.2.2.2.2.2.1, .arr tWrite y.2.2.2.2.2.2.2.2.2.2.2.2.2.2.2]))
    (none)

theorem spec_DrawAhead_q (a0 : (List Int)) : Par (fun k : AV × St → Option Res => spec_DrawAhead_g [.lst (.int .u8) a0] [] (fun v s => k (v, s))) :=
  (spec_DrawAhead_p a0).bind (H := fun (y : (Int × Int × Int × Int × Bool × ByteArray × Int × Int × Int × Int × Bool × ByteArray × (List dRange) × (List dWrite) × (List dRange) × (List dWrite))) (k : AV × St → Option Res) => (fun (y : (Int × Int × Int × Int × Bool × ByteArray × Int × Int × Int × Int × Bool × ByteArray × (List dRange) × (List dWrite) × (List dRange) × (List dWrite))) => k ((.tup [.agg [.int .i64 y.1, .int .i64 y.2.1, .int .i64 y.2.2.1, .int .i64 y.2.2.2.1, .own 0, .own 1, .bool y.2.2.2.2.1, .str y.2.2.2.2.2.1], .agg [.int .i64 y.2.2.2.2.2.2.1, .int .i64 y.2.2.2.2.2.2.2.1, .int .i64 y.2.2.2.2.2.2.2.2.1, .int .i64 y.2.2.2.2.2.2.2.2.2.1, .own 2, .own 3, .bool y.2.2.2.2.2.2.2.2.2.2.1, .str y.2.2.2.2.2.2.2.2.2.2.2.1]] : AV), ([.arr tRange y.2.2.2.2.2.2.2.2.2.2.2.2.1, .arr tWrite y.2.2.2.2.2.2.2.2.2.2.2.2.2.1, .arr tRange y.2.2.2.2.2.2.2.2.2.2.2.2.2.2.1, .arr tWrite y.2.2.2.2.2.2.2.2.2.2.2.2.2.2.2] : St))) y) (fun y => par_ret _)

def impl_InRange_g (args : List AV) (st : St) (k : K1) : Option Res :=
  onPats [.agg [.str, .str], .str] [] args st (fun p q => impl_InRange_k (p.1.1, p.1.2.1) p.2.1 (fun (y : Bool) => k (.bool y) []))
    (none)

theorem impl_InRange_q (a0 : ByteArray) (a1 : ByteArray) (a2 : ByteArray) : Par (fun k : AV × St → Option Res => impl_InRange_g [.agg [.str a0, .str a1], .str a2] [] (fun v s => k (v, s))) :=
  (impl_InRange_p (a0, a1) a2).bind (H := fun (y : Bool) (k : AV × St → Option Res) => (fun (y : Bool) => k ((.bool y : AV), ([] : St))) y) (fun y => par_ret _)

def impl_Touches_g (args : List AV) (st : St) (k : K1) : Option Res :=
  onPats [.lst tRange, .lst tWrite] [] args st (fun p q => impl_Touches_k p.1 p.2.1 (fun (y : Bool) => k (.bool y) []))
    (none)

theorem impl_Touches_q (a0 : (List dRange)) (a1 : (List dWrite)) : Par (fun k : AV × St → Option Res => impl_Touches_g [.lst tRange a0, .lst tWrite a1] [] (fun v s => k (v, s))) :=
  (impl_Touches_p a0 a1).bind (H := fun (y : Bool) (k : AV × St → Option Res) => (fun (y : Bool) => k ((.bool y : AV), ([] : St))) y) (fun y => par_ret _)

def impl_Ahead_g (args : List AV) (st : St) (k : K1) : Option Res :=
  onPats [.agg [.int .i64, .int .i64, .int .i64, .int .i64, .lst tRange, .lst tWrite, .bool, .str], .agg [.int .i64, .int .i64, .int .i64, .int .i64, .lst tRange, .lst tWrite, .bool, .str]] [] args st (fun p q => impl_Ahead_k (p.1.1, (p.1.2.1, (p.1.2.2.1, (p.1.2.2.2.1, (p.1.2.2.2.2.1, (p.1.2.2.2.2.2.1, (p.1.2.2.2.2.2.2.1, p.1.2.2.2.2.2.2.2.1))))))) (p.2.1.1, (p.2.1.2.1, (p.2.1.2.2.1, (p.2.1.2.2.2.1, (p.2.1.2.2.2.2.1, (p.2.1.2.2.2.2.2.1, (p.2.1.2.2.2.2.2.2.1, p.2.1.2.2.2.2.2.2.2.1))))))) (fun (y : Bool) => k (.bool y) []))
    (none)

theorem impl_Ahead_q (a0 : Int) (a1 : Int) (a2 : Int) (a3 : Int) (a4 : (List dRange)) (a5 : (List dWrite)) (a6 : Bool) (a7 : ByteArray) (a8 : Int) (a9 : Int) (a10 : Int) (a11 : Int) (a12 : (List dRange)) (a13 : (List dWrite)) (a14 : Bool) (a15 : ByteArray) : Par (fun k : AV × St → Option Res => impl_Ahead_g [.agg [.int .i64 a0, .int .i64 a1, .int .i64 a2, .int .i64 a3, .lst tRange a4, .lst tWrite a5, .bool a6, .str a7], .agg [.int .i64 a8, .int .i64 a9, .int .i64 a10, .int .i64 a11, .lst tRange a12, .lst tWrite a13, .bool a14, .str a15]] [] (fun v s => k (v, s))) :=
  (impl_Ahead_p (a0, (a1, (a2, (a3, (a4, (a5, (a6, a7))))))) (a8, (a9, (a10, (a11, (a12, (a13, (a14, a15)))))))).bind (H := fun (y : Bool) (k : AV × St → Option Res) => (fun (y : Bool) => k ((.bool y : AV), ([] : St))) y) (fun y => par_ret _)

def spec_InRange_g (args : List AV) (st : St) (k : K1) : Option Res :=
  onPats [.agg [.str, .str], .str] [] args st (fun p q => spec_InRange_k (p.1.1, p.1.2.1) p.2.1 (fun (y : Bool) => k (.bool y) []))
    (none)

theorem spec_InRange_q (a0 : ByteArray) (a1 : ByteArray) (a2 : ByteArray) : Par (fun k : AV × St → Option Res => spec_InRange_g [.agg [.str a0, .str a1], .str a2] [] (fun v s => k (v, s))) :=
  (spec_InRange_p (a0, a1) a2).bind (H := fun (y : Bool) (k : AV × St → Option Res) => (fun (y : Bool) => k ((.bool y : AV), ([] : St))) y) (fun y => par_ret _)

def spec_Touches_g (args : List AV) (st : St) (k : K1) : Option Res :=
  onPats [.lst tRange, .lst tWrite] [] args st (fun p q => spec_Touches_k p.1 p.2.1 (fun (y : Bool) => k (.bool y) []))
    (none)

theorem spec_Touches_q (a0 : (List dRange)) (a1 : (List dWrite)) : Par (fun k : AV × St → Option Res => spec_Touches_g [.lst tRange a0, .lst tWrite a1] [] (fun v s => k (v, s))) :=
  (spec_Touches_p a0 a1).bind (H := fun (y : Bool) (k : AV × St → Option Res) => (fun (y : Bool) => k ((.bool y : AV), ([] : St))) y) (fun y => par_ret _)

def spec_Beside_g (args : List AV) (st : St) (k : K1) : Option Res :=
  onPats [.agg [.int .i64, .int .i64, .int .i64, .int .i64, .lst tRange, .lst tWrite, .bool, .str], .agg [.int .i64, .int .i64, .int .i64, .int .i64, .lst tRange, .lst tWrite, .bool, .str]] [] args st (fun p q => spec_Beside_k (p.1.1, (p.1.2.1, (p.1.2.2.1, (p.1.2.2.2.1, (p.1.2.2.2.2.1, (p.1.2.2.2.2.2.1, (p.1.2.2.2.2.2.2.1, p.1.2.2.2.2.2.2.2.1))))))) (p.2.1.1, (p.2.1.2.1, (p.2.1.2.2.1, (p.2.1.2.2.2.1, (p.2.1.2.2.2.2.1, (p.2.1.2.2.2.2.2.1, (p.2.1.2.2.2.2.2.2.1, p.2.1.2.2.2.2.2.2.2.1))))))) (fun (y : Bool) => k (.bool y) []))
    (none)

theorem spec_Beside_q (a0 : Int) (a1 : Int) (a2 : Int) (a3 : Int) (a4 : (List dRange)) (a5 : (List dWrite)) (a6 : Bool) (a7 : ByteArray) (a8 : Int) (a9 : Int) (a10 : Int) (a11 : Int) (a12 : (List dRange)) (a13 : (List dWrite)) (a14 : Bool) (a15 : ByteArray) : Par (fun k : AV × St → Option Res => spec_Beside_g [.agg [.int .i64 a0, .int .i64 a1, .int .i64 a2, .int .i64 a3, .lst tRange a4, .lst tWrite a5, .bool a6, .str a7], .agg [.int .i64 a8, .int .i64 a9, .int .i64 a10, .int .i64 a11, .lst tRange a12, .lst tWrite a13, .bool a14, .str a15]] [] (fun v s => k (v, s))) :=
  (spec_Beside_p (a0, (a1, (a2, (a3, (a4, (a5, (a6, a7))))))) (a8, (a9, (a10, (a11, (a12, (a13, (a14, a15)))))))).bind (H := fun (y : Bool) (k : AV × St → Option Res) => (fun (y : Bool) => k ((.bool y : AV), ([] : St))) y) (fun y => par_ret _)

def spec_Ahead_g (args : List AV) (st : St) (k : K1) : Option Res :=
  onPats [.agg [.int .i64, .int .i64, .int .i64, .int .i64, .lst tRange, .lst tWrite, .bool, .str], .agg [.int .i64, .int .i64, .int .i64, .int .i64, .lst tRange, .lst tWrite, .bool, .str]] [] args st (fun p q => spec_Ahead_k (p.1.1, (p.1.2.1, (p.1.2.2.1, (p.1.2.2.2.1, (p.1.2.2.2.2.1, (p.1.2.2.2.2.2.1, (p.1.2.2.2.2.2.2.1, p.1.2.2.2.2.2.2.2.1))))))) (p.2.1.1, (p.2.1.2.1, (p.2.1.2.2.1, (p.2.1.2.2.2.1, (p.2.1.2.2.2.2.1, (p.2.1.2.2.2.2.2.1, (p.2.1.2.2.2.2.2.2.1, p.2.1.2.2.2.2.2.2.2.1))))))) (fun (y : Bool) => k (.bool y) []))
    (none)

theorem spec_Ahead_q (a0 : Int) (a1 : Int) (a2 : Int) (a3 : Int) (a4 : (List dRange)) (a5 : (List dWrite)) (a6 : Bool) (a7 : ByteArray) (a8 : Int) (a9 : Int) (a10 : Int) (a11 : Int) (a12 : (List dRange)) (a13 : (List dWrite)) (a14 : Bool) (a15 : ByteArray) : Par (fun k : AV × St → Option Res => spec_Ahead_g [.agg [.int .i64 a0, .int .i64 a1, .int .i64 a2, .int .i64 a3, .lst tRange a4, .lst tWrite a5, .bool a6, .str a7], .agg [.int .i64 a8, .int .i64 a9, .int .i64 a10, .int .i64 a11, .lst tRange a12, .lst tWrite a13, .bool a14, .str a15]] [] (fun v s => k (v, s))) :=
  (spec_Ahead_p (a0, (a1, (a2, (a3, (a4, (a5, (a6, a7))))))) (a8, (a9, (a10, (a11, (a12, (a13, (a14, a15)))))))).bind (H := fun (y : Bool) (k : AV × St → Option Res) => (fun (y : Bool) => k ((.bool y : AV), ([] : St))) y) (fun y => par_ret _)

def laws_FnEdges_g (args : List AV) (st : St) (k : K1) : Option Res :=
  onPats [.lst (.int .u8)] [] args st (fun p q => laws_FnEdges_k p.1 (fun (y : Bool) => k (.bool y) []))
    (none)

theorem laws_FnEdges_q (a0 : (List Int)) : Par (fun k : AV × St → Option Res => laws_FnEdges_g [.lst (.int .u8) a0] [] (fun v s => k (v, s))) :=
  (laws_FnEdges_p a0).bind (H := fun (y : Bool) (k : AV × St → Option Res) => (fun (y : Bool) => k ((.bool y : AV), ([] : St))) y) (fun y => par_ret _)

end

end Go.VE
