/- Native programs of the functions, written by gen.py. -/

import Derived.Test.YtbedbcnmfoildaaT0

namespace Go.VE

noncomputable section

set_option linter.unusedVariables false
set_option linter.unusedSimpArgs false
set_option maxRecDepth 100000


def laws_szRange_d (a0 : dRange) (a1 : Int) (k : Int → Option Res) : Option Res :=
  bif (decide ((IntKind.wrap .i64 (a1 - (a0.1.size : Int))) < (0 : Int))) then
    k (-1 : Int)
  else
    bif (decide ((IntKind.wrap .i64 ((IntKind.wrap .i64 (a1 - (a0.1.size : Int))) - (a0.2.size : Int))) < (0 : Int))) then
      k (-1 : Int)
    else
      k (IntKind.wrap .i64 ((IntKind.wrap .i64 (a1 - (a0.1.size : Int))) - (a0.2.size : Int)))

theorem laws_szRange_h : ∃ g : dRange → Int → (Int → Option Res) → Option Res, g = laws_szRange_d := ⟨_, rfl⟩
def laws_szRange_k : dRange → Int → (Int → Option Res) → Option Res := Classical.choose laws_szRange_h
theorem laws_szRange_e : laws_szRange_k = laws_szRange_d := Classical.choose_spec laws_szRange_h

theorem laws_szRange_p (a0 : dRange) (a1 : Int) : Par (laws_szRange_k a0 a1) := by
  rw [laws_szRange_e]
  unfold laws_szRange_d
  exact (par_bif (par_ret _) (par_bif (par_ret _) (par_ret _)))

def laws_szRangeS_b0 (x : ((List dRange) × Int × Int × Int)) (k : ((List dRange) × Int × Int × Int) ⊕ (((List dRange) × Int × Int × Int) ⊕ ((List dRange) × Int × Int × Int)) → Option Res) : Option Res :=
    bif (decide (x.2.2.2 < (x.1.length : Int))) then
      if 0 ≤ x.2.2.2 ∧ x.2.2.2 < (x.1.length : Int) then
        laws_szRange_k (rd (Ty.zero tRange) x.1 x.2.2.2) x.2.1 (fun y3 =>
          bif (decide (y3 < (0 : Int))) then
            k (.inr (.inl (x.1, y3, (-1 : Int), x.2.2.2)))
          else
            k (.inl (x.1, y3, x.2.2.1, (IntKind.wrap .i64 (x.2.2.2 + (1 : Int))))))
      else none
    else
      k (.inr (.inr (x.1, x.2.1, x.2.2.1, x.2.2.2)))

theorem laws_szRangeS_bp0 (x : ((List dRange) × Int × Int × Int)) : Par (laws_szRangeS_b0 x) := by
  unfold laws_szRangeS_b0
  exact (par_bif (par_ite (c := 0 ≤ x.2.2.2 ∧ x.2.2.2 < (x.1.length : Int)) ((laws_szRange_p (rd (Ty.zero tRange) x.1 x.2.2.2) x.2.1).bind fun y3 => (par_bif (par_ret _) (par_ret _))) par_none) (par_ret _))

def laws_szRangeS_d (a0 : (List dRange)) (a1 : Int) (k : Int → Option Res) : Option Res :=
  bif (decide ((IntKind.wrap .i64 (a1 - (a0.length : Int))) < (0 : Int))) then
    k (-1 : Int)
  else
    loopK laws_szRangeS_b0 Fuel (a0, (IntKind.wrap .i64 (a1 - (a0.length : Int))), (0 : Int), (0 : Int)) (Sum.elim (fun z1 =>
      k z1.2.2.1) (fun z2 =>
      k z2.2.1))

theorem laws_szRangeS_h : ∃ g : (List dRange) → Int → (Int → Option Res) → Option Res, g = laws_szRangeS_d := ⟨_, rfl⟩
def laws_szRangeS_k : (List dRange) → Int → (Int → Option Res) → Option Res := Classical.choose laws_szRangeS_h
theorem laws_szRangeS_e : laws_szRangeS_k = laws_szRangeS_d := Classical.choose_spec laws_szRangeS_h

theorem laws_szRangeS_p (a0 : (List dRange)) (a1 : Int) : Par (laws_szRangeS_k a0 a1) := by
  rw [laws_szRangeS_e]
  unfold laws_szRangeS_d
  exact (par_bif (par_ret _) ((par_loop laws_szRangeS_bp0 Fuel (a0, (IntKind.wrap .i64 (a1 - (a0.length : Int))), (0 : Int), (0 : Int))).bind2 (fun z1 => (par_ret _)) (fun z2 => (par_ret _))))

def laws_szWrite_d (a0 : dWrite) (a1 : Int) (k : Int → Option Res) : Option Res :=
  bif (decide ((IntKind.wrap .i64 (a1 - (a0.1.size : Int))) < (0 : Int))) then
    k (-1 : Int)
  else
    bif (decide ((IntKind.wrap .i64 ((IntKind.wrap .i64 (a1 - (a0.1.size : Int))) - (a0.2.1.size : Int))) < (0 : Int))) then
      k (-1 : Int)
    else
      k (IntKind.wrap .i64 ((IntKind.wrap .i64 (a1 - (a0.1.size : Int))) - (a0.2.1.size : Int)))

theorem laws_szWrite_h : ∃ g : dWrite → Int → (Int → Option Res) → Option Res, g = laws_szWrite_d := ⟨_, rfl⟩
def laws_szWrite_k : dWrite → Int → (Int → Option Res) → Option Res := Classical.choose laws_szWrite_h
theorem laws_szWrite_e : laws_szWrite_k = laws_szWrite_d := Classical.choose_spec laws_szWrite_h

theorem laws_szWrite_p (a0 : dWrite) (a1 : Int) : Par (laws_szWrite_k a0 a1) := by
  rw [laws_szWrite_e]
  unfold laws_szWrite_d
  exact (par_bif (par_ret _) (par_bif (par_ret _) (par_ret _)))

def laws_szWriteS_b0 (x : ((List dWrite) × Int × Int × Int)) (k : ((List dWrite) × Int × Int × Int) ⊕ (((List dWrite) × Int × Int × Int) ⊕ ((List dWrite) × Int × Int × Int)) → Option Res) : Option Res :=
    bif (decide (x.2.2.2 < (x.1.length : Int))) then
      if 0 ≤ x.2.2.2 ∧ x.2.2.2 < (x.1.length : Int) then
        laws_szWrite_k (rd (Ty.zero tWrite) x.1 x.2.2.2) x.2.1 (fun y3 =>
          bif (decide (y3 < (0 : Int))) then
            k (.inr (.inl (x.1, y3, (-1 : Int), x.2.2.2)))
          else
            k (.inl (x.1, y3, x.2.2.1, (IntKind.wrap .i64 (x.2.2.2 + (1 : Int))))))
      else none
    else
      k (.inr (.inr (x.1, x.2.1, x.2.2.1, x.2.2.2)))

theorem laws_szWriteS_bp0 (x : ((List dWrite) × Int × Int × Int)) : Par (laws_szWriteS_b0 x) := by
  unfold laws_szWriteS_b0
  exact (par_bif (par_ite (c := 0 ≤ x.2.2.2 ∧ x.2.2.2 < (x.1.length : Int)) ((laws_szWrite_p (rd (Ty.zero tWrite) x.1 x.2.2.2) x.2.1).bind fun y3 => (par_bif (par_ret _) (par_ret _))) par_none) (par_ret _))

def laws_szWriteS_d (a0 : (List dWrite)) (a1 : Int) (k : Int → Option Res) : Option Res :=
  bif (decide ((IntKind.wrap .i64 (a1 - (a0.length : Int))) < (0 : Int))) then
    k (-1 : Int)
  else
    loopK laws_szWriteS_b0 Fuel (a0, (IntKind.wrap .i64 (a1 - (a0.length : Int))), (0 : Int), (0 : Int)) (Sum.elim (fun z1 =>
      k z1.2.2.1) (fun z2 =>
      k z2.2.1))

theorem laws_szWriteS_h : ∃ g : (List dWrite) → Int → (Int → Option Res) → Option Res, g = laws_szWriteS_d := ⟨_, rfl⟩
def laws_szWriteS_k : (List dWrite) → Int → (Int → Option Res) → Option Res := Classical.choose laws_szWriteS_h
theorem laws_szWriteS_e : laws_szWriteS_k = laws_szWriteS_d := Classical.choose_spec laws_szWriteS_h

theorem laws_szWriteS_p (a0 : (List dWrite)) (a1 : Int) : Par (laws_szWriteS_k a0 a1) := by
  rw [laws_szWriteS_e]
  unfold laws_szWriteS_d
  exact (par_bif (par_ret _) ((par_loop laws_szWriteS_bp0 Fuel (a0, (IntKind.wrap .i64 (a1 - (a0.length : Int))), (0 : Int), (0 : Int))).bind2 (fun z1 => (par_ret _)) (fun z2 => (par_ret _))))

def laws_szTxn_d (a0 : dTxn) (a1 : Int) (k : Int → Option Res) : Option Res :=
  laws_szRangeS_k a0.2.2.2.2.1 a1 (fun y1 =>
    bif (decide (y1 < (0 : Int))) then
      k (-1 : Int)
    else
      laws_szWriteS_k a0.2.2.2.2.2.1 y1 (fun y2 =>
        bif (decide (y2 < (0 : Int))) then
          k (-1 : Int)
        else
          bif (decide ((IntKind.wrap .i64 (y2 - (a0.2.2.2.2.2.2.2.size : Int))) < (0 : Int))) then
            k (-1 : Int)
          else
            k (IntKind.wrap .i64 (y2 - (a0.2.2.2.2.2.2.2.size : Int)))))

theorem laws_szTxn_h : ∃ g : dTxn → Int → (Int → Option Res) → Option Res, g = laws_szTxn_d := ⟨_, rfl⟩
def laws_szTxn_k : dTxn → Int → (Int → Option Res) → Option Res := Classical.choose laws_szTxn_h
theorem laws_szTxn_e : laws_szTxn_k = laws_szTxn_d := Classical.choose_spec laws_szTxn_h

theorem laws_szTxn_p (a0 : dTxn) (a1 : Int) : Par (laws_szTxn_k a0 a1) := by
  rw [laws_szTxn_e]
  unfold laws_szTxn_d
  exact ((laws_szRangeS_p a0.2.2.2.2.1 a1).bind fun y1 => (par_bif (par_ret _) ((laws_szWriteS_p a0.2.2.2.2.2.1 y1).bind fun y2 => (par_bif (par_ret _) (par_bif (par_ret _) (par_ret _))))))

def laws_toRange_d (a0 : dRange) (k : (ByteArray × ByteArray) → Option Res) : Option Res :=
  k (a0.1, a0.2)

theorem laws_toRange_h : ∃ g : dRange → ((ByteArray × ByteArray) → Option Res) → Option Res, g = laws_toRange_d := ⟨_, rfl⟩
def laws_toRange_k : dRange → ((ByteArray × ByteArray) → Option Res) → Option Res := Classical.choose laws_toRange_h
theorem laws_toRange_e : laws_toRange_k = laws_toRange_d := Classical.choose_spec laws_toRange_h

theorem laws_toRange_p (a0 : dRange) : Par (laws_toRange_k a0) := by
  rw [laws_toRange_e]
  unfold laws_toRange_d
  exact (par_ret _)

def laws_toRangeS_b0 (x : ((List dRange) × Int × (List dRange))) (k : ((List dRange) × Int × (List dRange)) ⊕ ((List dRange) × Int × (List dRange)) → Option Res) : Option Res :=
    bif (decide (x.2.1 < (x.1.length : Int))) then
      if 0 ≤ x.2.1 ∧ x.2.1 < (x.1.length : Int) then
        laws_toRange_k (rd (Ty.zero tRange) x.1 x.2.1) (fun y2 =>
          if 0 ≤ x.2.1 ∧ x.2.1 < (x.2.2.length : Int) then
            k (.inl (x.1, (IntKind.wrap .i64 (x.2.1 + (1 : Int))), (x.2.2.set x.2.1.toNat y2)))
          else none)
      else none
    else
      k (.inr (x.1, x.2.1, x.2.2))

theorem laws_toRangeS_bp0 (x : ((List dRange) × Int × (List dRange))) : Par (laws_toRangeS_b0 x) := by
  unfold laws_toRangeS_b0
  exact (par_bif (par_ite (c := 0 ≤ x.2.1 ∧ x.2.1 < (x.1.length : Int)) ((laws_toRange_p (rd (Ty.zero tRange) x.1 x.2.1)).bind fun y2 => (par_ite (c := 0 ≤ x.2.1 ∧ x.2.1 < (x.2.2.length : Int)) (par_ret _) par_none)) par_none) (par_ret _))

def laws_toRangeS_d (a0 : (List dRange)) (k : (List dRange) → Option Res) : Option Res :=
  if 0 ≤ (a0.length : Int) ∧ (a0.length : Int) ≤ (a0.length : Int) ∧ (a0.length : Int) ≤ (VE.maxLen : Int) then
    loopK laws_toRangeS_b0 Fuel (a0, (0 : Int), (List.replicate (a0.length : Int).toNat (Ty.zero tRange))) (fun z1 =>
      k z1.2.2)
  else none

theorem laws_toRangeS_h : ∃ g : (List dRange) → ((List dRange) → Option Res) → Option Res, g = laws_toRangeS_d := ⟨_, rfl⟩
def laws_toRangeS_k : (List dRange) → ((List dRange) → Option Res) → Option Res := Classical.choose laws_toRangeS_h
theorem laws_toRangeS_e : laws_toRangeS_k = laws_toRangeS_d := Classical.choose_spec laws_toRangeS_h

theorem laws_toRangeS_p (a0 : (List dRange)) : Par (laws_toRangeS_k a0) := by
  rw [laws_toRangeS_e]
  unfold laws_toRangeS_d
  exact (par_ite (c := 0 ≤ (a0.length : Int) ∧ (a0.length : Int) ≤ (a0.length : Int) ∧ (a0.length : Int) ≤ (VE.maxLen : Int)) ((par_loop laws_toRangeS_bp0 Fuel (a0, (0 : Int), (List.replicate (a0.length : Int).toNat (Ty.zero tRange)))).bind fun z1 => (par_ret _)) par_none)

def laws_toWrite_d (a0 : dWrite) (k : (ByteArray × ByteArray × Bool) → Option Res) : Option Res :=
  k (a0.1, a0.2.1, a0.2.2)

theorem laws_toWrite_h : ∃ g : dWrite → ((ByteArray × ByteArray × Bool) → Option Res) → Option Res, g = laws_toWrite_d := ⟨_, rfl⟩
def laws_toWrite_k : dWrite → ((ByteArray × ByteArray × Bool) → Option Res) → Option Res := Classical.choose laws_toWrite_h
theorem laws_toWrite_e : laws_toWrite_k = laws_toWrite_d := Classical.choose_spec laws_toWrite_h

theorem laws_toWrite_p (a0 : dWrite) : Par (laws_toWrite_k a0) := by
  rw [laws_toWrite_e]
  unfold laws_toWrite_d
  exact (par_ret _)

def laws_toWriteS_b0 (x : ((List dWrite) × Int × (List dWrite))) (k : ((List dWrite) × Int × (List dWrite)) ⊕ ((List dWrite) × Int × (List dWrite)) → Option Res) : Option Res :=
    bif (decide (x.2.1 < (x.1.length : Int))) then
      if 0 ≤ x.2.1 ∧ x.2.1 < (x.1.length : Int) then
        laws_toWrite_k (rd (Ty.zero tWrite) x.1 x.2.1) (fun y2 =>
          if 0 ≤ x.2.1 ∧ x.2.1 < (x.2.2.length : Int) then
            k (.inl (x.1, (IntKind.wrap .i64 (x.2.1 + (1 : Int))), (x.2.2.set x.2.1.toNat y2)))
          else none)
      else none
    else
      k (.inr (x.1, x.2.1, x.2.2))

theorem laws_toWriteS_bp0 (x : ((List dWrite) × Int × (List dWrite))) : Par (laws_toWriteS_b0 x) := by
  unfold laws_toWriteS_b0
  exact (par_bif (par_ite (c := 0 ≤ x.2.1 ∧ x.2.1 < (x.1.length : Int)) ((laws_toWrite_p (rd (Ty.zero tWrite) x.1 x.2.1)).bind fun y2 => (par_ite (c := 0 ≤ x.2.1 ∧ x.2.1 < (x.2.2.length : Int)) (par_ret _) par_none)) par_none) (par_ret _))

def laws_toWriteS_d (a0 : (List dWrite)) (k : (List dWrite) → Option Res) : Option Res :=
  if 0 ≤ (a0.length : Int) ∧ (a0.length : Int) ≤ (a0.length : Int) ∧ (a0.length : Int) ≤ (VE.maxLen : Int) then
    loopK laws_toWriteS_b0 Fuel (a0, (0 : Int), (List.replicate (a0.length : Int).toNat (Ty.zero tWrite))) (fun z1 =>
      k z1.2.2)
  else none

theorem laws_toWriteS_h : ∃ g : (List dWrite) → ((List dWrite) → Option Res) → Option Res, g = laws_toWriteS_d := ⟨_, rfl⟩
def laws_toWriteS_k : (List dWrite) → ((List dWrite) → Option Res) → Option Res := Classical.choose laws_toWriteS_h
theorem laws_toWriteS_e : laws_toWriteS_k = laws_toWriteS_d := Classical.choose_spec laws_toWriteS_h

theorem laws_toWriteS_p (a0 : (List dWrite)) : Par (laws_toWriteS_k a0) := by
  rw [laws_toWriteS_e]
  unfold laws_toWriteS_d
  exact (par_ite (c := 0 ≤ (a0.length : Int) ∧ (a0.length : Int) ≤ (a0.length : Int) ∧ (a0.length : Int) ≤ (VE.maxLen : Int)) ((par_loop laws_toWriteS_bp0 Fuel (a0, (0 : Int), (List.replicate (a0.length : Int).toNat (Ty.zero tWrite)))).bind fun z1 => (par_ret _)) par_none)

def laws_toTxn_d (a0 : dTxn) (k : (Int × Int × Int × Int × Bool × ByteArray × (List dRange) × (List dWrite)) → Option Res) : Option Res :=
  laws_toRangeS_k a0.2.2.2.2.1 (fun y1 =>
    laws_toWriteS_k a0.2.2.2.2.2.1 (fun y2 =>
      k (a0.1, a0.2.1, a0.2.2.1, a0.2.2.2.1, a0.2.2.2.2.2.2.1, a0.2.2.2.2.2.2.2, y1, y2)))

theorem laws_toTxn_h : ∃ g : dTxn → ((Int × Int × Int × Int × Bool × ByteArray × (List dRange) × (List dWrite)) → Option Res) → Option Res, g = laws_toTxn_d := ⟨_, rfl⟩
def laws_toTxn_k : dTxn → ((Int × Int × Int × Int × Bool × ByteArray × (List dRange) × (List dWrite)) → Option Res) → Option Res := Classical.choose laws_toTxn_h
theorem laws_toTxn_e : laws_toTxn_k = laws_toTxn_d := Classical.choose_spec laws_toTxn_h

theorem laws_toTxn_p (a0 : dTxn) : Par (laws_toTxn_k a0) := by
  rw [laws_toTxn_e]
  unfold laws_toTxn_d
  exact ((laws_toRangeS_p a0.2.2.2.2.1).bind fun y1 => ((laws_toWriteS_p a0.2.2.2.2.2.1).bind fun y2 => (par_ret _)))

def spec_l07Copy_d (a0 : dTxn) (k : (Int × Int × Int × Int × Bool × ByteArray × (List dRange) × (List dWrite)) → Option Res) : Option Res :=
  if ([] : List dRange).length + a0.2.2.2.2.1.length ≤ VE.maxLen then
    if ([] : List dWrite).length + a0.2.2.2.2.2.1.length ≤ VE.maxLen then
      k (a0.1, a0.2.1, a0.2.2.1, a0.2.2.2.1, a0.2.2.2.2.2.2.1, a0.2.2.2.2.2.2.2, (([] : List dRange) ++ a0.2.2.2.2.1), (([] : List dWrite) ++ a0.2.2.2.2.2.1))
    else none
  else none

theorem spec_l07Copy_h : ∃ g : dTxn → ((Int × Int × Int × Int × Bool × ByteArray × (List dRange) × (List dWrite)) → Option Res) → Option Res, g = spec_l07Copy_d := ⟨_, rfl⟩
def spec_l07Copy_k : dTxn → ((Int × Int × Int × Int × Bool × ByteArray × (List dRange) × (List dWrite)) → Option Res) → Option Res := Classical.choose spec_l07Copy_h
theorem spec_l07Copy_e : spec_l07Copy_k = spec_l07Copy_d := Classical.choose_spec spec_l07Copy_h

theorem spec_l07Copy_p (a0 : dTxn) : Par (spec_l07Copy_k a0) := by
  rw [spec_l07Copy_e]
  unfold spec_l07Copy_d
  exact (par_ite (c := ([] : List dRange).length + a0.2.2.2.2.1.length ≤ VE.maxLen) (par_ite (c := ([] : List dWrite).length + a0.2.2.2.2.2.1.length ≤ VE.maxLen) (par_ret _) par_none) par_none)

def spec_l01In_d (a0 : Int) (a1 : Int) (a2 : Int) (k : Bool → Option Res) : Option Res :=
  bif (decide (a0 ≥ a1)) then
    k (decide (a0 ≤ a2))
  else
    k false

theorem spec_l01In_h : ∃ g : Int → Int → Int → (Bool → Option Res) → Option Res, g = spec_l01In_d := ⟨_, rfl⟩
def spec_l01In_k : Int → Int → Int → (Bool → Option Res) → Option Res := Classical.choose spec_l01In_h
theorem spec_l01In_e : spec_l01In_k = spec_l01In_d := Classical.choose_spec spec_l01In_h

theorem spec_l01In_p (a0 : Int) (a1 : Int) (a2 : Int) : Par (spec_l01In_k a0 a1 a2) := by
  rw [spec_l01In_e]
  unfold spec_l01In_d
  exact (par_bif (par_ret _) (par_ret _))

def spec_KeyOk_b0 (x : (ByteArray × Bool × Int)) (k : (ByteArray × Bool × Int) ⊕ ((ByteArray × Bool × Int) ⊕ (ByteArray × Bool × Int)) → Option Res) : Option Res :=
    bif (decide (x.2.2 < (x.1.size : Int))) then
      if 0 ≤ x.2.2 ∧ x.2.2 < (x.1.size : Int) then
        bif (decide ((bt x.1 x.2.2) < (97 : Int))) then
          k (.inr (.inl (x.1, false, x.2.2)))
        else
          if 0 ≤ x.2.2 ∧ x.2.2 < (x.1.size : Int) then
            bif (decide ((bt x.1 x.2.2) > (122 : Int))) then
              k (.inr (.inl (x.1, false, x.2.2)))
            else
              k (.inl (x.1, x.2.1, (IntKind.wrap .i64 (x.2.2 + (1 : Int)))))
          else none
      else none
    else
      k (.inr (.inr (x.1, x.2.1, x.2.2)))

theorem spec_KeyOk_bp0 (x : (ByteArray × Bool × Int)) : Par (spec_KeyOk_b0 x) := by
  unfold spec_KeyOk_b0
  exact (par_bif (par_ite (c := 0 ≤ x.2.2 ∧ x.2.2 < (x.1.size : Int)) (par_bif (par_ret _) (par_ite (c := 0 ≤ x.2.2 ∧ x.2.2 < (x.1.size : Int)) (par_bif (par_ret _) (par_ret _)) par_none)) par_none) (par_ret _))

def spec_KeyOk_d (a0 : ByteArray) (k : Bool → Option Res) : Option Res :=
  loopK spec_KeyOk_b0 Fuel (a0, false, (0 : Int)) (Sum.elim (fun z1 =>
    k z1.2.1) (fun z2 =>
    spec_l01In_k (z2.1.size : Int) (1 : Int) (3 : Int) (fun y3 =>
      k y3)))

theorem spec_KeyOk_h : ∃ g : ByteArray → (Bool → Option Res) → Option Res, g = spec_KeyOk_d := ⟨_, rfl⟩
def spec_KeyOk_k : ByteArray → (Bool → Option Res) → Option Res := Classical.choose spec_KeyOk_h
theorem spec_KeyOk_e : spec_KeyOk_k = spec_KeyOk_d := Classical.choose_spec spec_KeyOk_h

theorem spec_KeyOk_p (a0 : ByteArray) : Par (spec_KeyOk_k a0) := by
  rw [spec_KeyOk_e]
  unfold spec_KeyOk_d
  exact ((par_loop spec_KeyOk_bp0 Fuel (a0, false, (0 : Int))).bind2 (fun z1 => (par_ret _)) (fun z2 => ((spec_l01In_p (z2.1.size : Int) (1 : Int) (3 : Int)).bind fun y3 => (par_ret _))))

def spec_WriteOk_d (a0 : dWrite) (k : Bool → Option Res) : Option Res :=
  spec_KeyOk_k a0.1 (fun y1 =>
    bif y1 then
      bif (decide ((a0.2.1.size : Int) ≤ (12 : Int))) then
        bif (!a0.2.2) then
          k true
        else
          k (strEq a0.2.1 (⟨#[]⟩ : ByteArray))
      else
        k false
    else
      k false)

theorem spec_WriteOk_h : ∃ g : dWrite → (Bool → Option Res) → Option Res, g = spec_WriteOk_d := ⟨_, rfl⟩
def spec_WriteOk_k : dWrite → (Bool → Option Res) → Option Res := Classical.choose spec_WriteOk_h
theorem spec_WriteOk_e : spec_WriteOk_k = spec_WriteOk_d := Classical.choose_spec spec_WriteOk_h

theorem spec_WriteOk_p (a0 : dWrite) : Par (spec_WriteOk_k a0) := by
  rw [spec_WriteOk_e]
  unfold spec_WriteOk_d
  exact ((spec_KeyOk_p a0.1).bind fun y1 => (par_bif (par_bif (par_bif (par_ret _) (par_ret _)) (par_ret _)) (par_ret _)))

def spec_WritesOk_b0 (x : ((List dWrite) × Bool × Int)) (k : ((List dWrite) × Bool × Int) ⊕ (((List dWrite) × Bool × Int) ⊕ ((List dWrite) × Bool × Int)) → Option Res) : Option Res :=
    bif (decide (x.2.2 < (x.1.length : Int))) then
      if 0 ≤ x.2.2 ∧ x.2.2 < (x.1.length : Int) then
        spec_WriteOk_k (rd (Ty.zero tWrite) x.1 x.2.2) (fun y3 =>
          bif (!y3) then
            k (.inr (.inl (x.1, false, x.2.2)))
          else
            bif (decide (x.2.2 > (0 : Int))) then
              if 0 ≤ (IntKind.wrap .i64 (x.2.2 - (1 : Int))) ∧ (IntKind.wrap .i64 (x.2.2 - (1 : Int))) < (x.1.length : Int) then
                if 0 ≤ x.2.2 ∧ x.2.2 < (x.1.length : Int) then
                  bif (!(strLess ((rd (Ty.zero tWrite) x.1 (IntKind.wrap .i64 (x.2.2 - (1 : Int)))).1) ((rd (Ty.zero tWrite) x.1 x.2.2).1))) then
                    k (.inr (.inl (x.1, false, x.2.2)))
                  else
                    k (.inl (x.1, x.2.1, (IntKind.wrap .i64 (x.2.2 + (1 : Int)))))
                else none
              else none
            else
              k (.inl (x.1, x.2.1, (IntKind.wrap .i64 (x.2.2 + (1 : Int))))))
      else none
    else
      k (.inr (.inr (x.1, x.2.1, x.2.2)))

theorem spec_WritesOk_bp0 (x : ((List dWrite) × Bool × Int)) : Par (spec_WritesOk_b0 x) := by
  unfold spec_WritesOk_b0
  exact (par_bif (par_ite (c := 0 ≤ x.2.2 ∧ x.2.2 < (x.1.length : Int)) ((spec_WriteOk_p (rd (Ty.zero tWrite) x.1 x.2.2)).bind fun y3 => (par_bif (par_ret _) (par_bif (par_ite (c := 0 ≤ (IntKind.wrap .i64 (x.2.2 - (1 : Int))) ∧ (IntKind.wrap .i64 (x.2.2 - (1 : Int))) < (x.1.length : Int)) (par_ite (c := 0 ≤ x.2.2 ∧ x.2.2 < (x.1.length : Int)) (par_bif (par_ret _) (par_ret _)) par_none) par_none) (par_ret _)))) par_none) (par_ret _))

def spec_WritesOk_d (a0 : (List dWrite)) (k : Bool → Option Res) : Option Res :=
  loopK spec_WritesOk_b0 Fuel (a0, false, (0 : Int)) (Sum.elim (fun z1 =>
    k z1.2.1) (fun z2 =>
    k (decide ((z2.1.length : Int) ≤ (8 : Int)))))

theorem spec_WritesOk_h : ∃ g : (List dWrite) → (Bool → Option Res) → Option Res, g = spec_WritesOk_d := ⟨_, rfl⟩
def spec_WritesOk_k : (List dWrite) → (Bool → Option Res) → Option Res := Classical.choose spec_WritesOk_h
theorem spec_WritesOk_e : spec_WritesOk_k = spec_WritesOk_d := Classical.choose_spec spec_WritesOk_h

theorem spec_WritesOk_p (a0 : (List dWrite)) : Par (spec_WritesOk_k a0) := by
  rw [spec_WritesOk_e]
  unfold spec_WritesOk_d
  exact ((par_loop spec_WritesOk_bp0 Fuel (a0, false, (0 : Int))).bind2 (fun z1 => (par_ret _)) (fun z2 => (par_ret _)))

def spec_RangeOk_d (a0 : dRange) (k : Bool → Option Res) : Option Res :=
  spec_KeyOk_k a0.1 (fun y1 =>
    bif y1 then
      spec_KeyOk_k a0.2 (fun y2 =>
        bif y2 then
          k ((strLess a0.1 a0.2) || (strEq a0.1 a0.2))
        else
          k false)
    else
      k false)

theorem spec_RangeOk_h : ∃ g : dRange → (Bool → Option Res) → Option Res, g = spec_RangeOk_d := ⟨_, rfl⟩
def spec_RangeOk_k : dRange → (Bool → Option Res) → Option Res := Classical.choose spec_RangeOk_h
theorem spec_RangeOk_e : spec_RangeOk_k = spec_RangeOk_d := Classical.choose_spec spec_RangeOk_h

theorem spec_RangeOk_p (a0 : dRange) : Par (spec_RangeOk_k a0) := by
  rw [spec_RangeOk_e]
  unfold spec_RangeOk_d
  exact ((spec_KeyOk_p a0.1).bind fun y1 => (par_bif ((spec_KeyOk_p a0.2).bind fun y2 => (par_bif (par_ret _) (par_ret _))) (par_ret _)))

def spec_TxnOk_j5000012 (x : (Bool × Int × Int × Int × Int × (List dRange) × (List dWrite) × Bool × ByteArray)) (k : (Bool × Int × Int × Int × Int × (List dRange) × (List dWrite) × Bool × ByteArray) → Option Res) : Option Res :=
    bif (x.2.2.1 != (1 : Int)) then
      k (true, x.2.1, x.2.2.1, x.2.2.2.1, x.2.2.2.2.1, x.2.2.2.2.2.1, x.2.2.2.2.2.2.1, x.2.2.2.2.2.2.2.1, x.2.2.2.2.2.2.2.2)
    else
      k ((!x.2.2.2.2.2.2.2.1), x.2.1, x.2.2.1, x.2.2.2.1, x.2.2.2.2.1, x.2.2.2.2.2.1, x.2.2.2.2.2.2.1, x.2.2.2.2.2.2.2.1, x.2.2.2.2.2.2.2.2)

theorem spec_TxnOk_jp5000012 (x : (Bool × Int × Int × Int × Int × (List dRange) × (List dWrite) × Bool × ByteArray)) : Par (spec_TxnOk_j5000012 x) := by
  unfold spec_TxnOk_j5000012
  exact (par_bif (par_ret _) (par_ret _))

def spec_TxnOk_j5000010 (x : (Bool × Int × Int × Int × Int × (List dRange) × (List dWrite) × Bool × ByteArray)) (k : (Bool × Int × Int × Int × Int × (List dRange) × (List dWrite) × Bool × ByteArray) → Option Res) : Option Res :=
    bif (x.2.2.1 == (2 : Int)) then
      spec_KeyOk_k x.2.2.2.2.2.2.2.2 (fun y14 =>
        bif (!y14) then
          k (false, x.2.1, x.2.2.1, x.2.2.2.1, x.2.2.2.2.1, x.2.2.2.2.2.1, x.2.2.2.2.2.2.1, x.2.2.2.2.2.2.2.1, x.2.2.2.2.2.2.2.2)
        else
          bif (x.2.2.1 != (2 : Int)) then
            bif (!(strEq x.2.2.2.2.2.2.2.2 (⟨#[]⟩ : ByteArray))) then
              k (false, x.2.1, x.2.2.1, x.2.2.2.1, x.2.2.2.2.1, x.2.2.2.2.2.1, x.2.2.2.2.2.2.1, x.2.2.2.2.2.2.2.1, x.2.2.2.2.2.2.2.2)
            else
              spec_TxnOk_j5000012 (x.1, x.2.1, x.2.2.1, x.2.2.2.1, x.2.2.2.2.1, x.2.2.2.2.2.1, x.2.2.2.2.2.2.1, x.2.2.2.2.2.2.2.1, x.2.2.2.2.2.2.2.2) (fun z15 =>
                k (z15.1, z15.2.1, z15.2.2.1, z15.2.2.2.1, z15.2.2.2.2.1, z15.2.2.2.2.2.1, z15.2.2.2.2.2.2.1, z15.2.2.2.2.2.2.2.1, z15.2.2.2.2.2.2.2.2))
          else
            spec_TxnOk_j5000012 (x.1, x.2.1, x.2.2.1, x.2.2.2.1, x.2.2.2.2.1, x.2.2.2.2.2.1, x.2.2.2.2.2.2.1, x.2.2.2.2.2.2.2.1, x.2.2.2.2.2.2.2.2) (fun z16 =>
              k (z16.1, z16.2.1, z16.2.2.1, z16.2.2.2.1, z16.2.2.2.2.1, z16.2.2.2.2.2.1, z16.2.2.2.2.2.2.1, z16.2.2.2.2.2.2.2.1, z16.2.2.2.2.2.2.2.2)))
    else
      bif (x.2.2.1 != (2 : Int)) then
        bif (!(strEq x.2.2.2.2.2.2.2.2 (⟨#[]⟩ : ByteArray))) then
          k (false, x.2.1, x.2.2.1, x.2.2.2.1, x.2.2.2.2.1, x.2.2.2.2.2.1, x.2.2.2.2.2.2.1, x.2.2.2.2.2.2.2.1, x.2.2.2.2.2.2.2.2)
        else
          spec_TxnOk_j5000012 (x.1, x.2.1, x.2.2.1, x.2.2.2.1, x.2.2.2.2.1, x.2.2.2.2.2.1, x.2.2.2.2.2.2.1, x.2.2.2.2.2.2.2.1, x.2.2.2.2.2.2.2.2) (fun z17 =>
            k (z17.1, z17.2.1, z17.2.2.1, z17.2.2.2.1, z17.2.2.2.2.1, z17.2.2.2.2.2.1, z17.2.2.2.2.2.2.1, z17.2.2.2.2.2.2.2.1, z17.2.2.2.2.2.2.2.2))
      else
        spec_TxnOk_j5000012 (x.1, x.2.1, x.2.2.1, x.2.2.2.1, x.2.2.2.2.1, x.2.2.2.2.2.1, x.2.2.2.2.2.2.1, x.2.2.2.2.2.2.2.1, x.2.2.2.2.2.2.2.2) (fun z18 =>
          k (z18.1, z18.2.1, z18.2.2.1, z18.2.2.2.1, z18.2.2.2.2.1, z18.2.2.2.2.2.1, z18.2.2.2.2.2.2.1, z18.2.2.2.2.2.2.2.1, z18.2.2.2.2.2.2.2.2))

theorem spec_TxnOk_jp5000010 (x : (Bool × Int × Int × Int × Int × (List dRange) × (List dWrite) × Bool × ByteArray)) : Par (spec_TxnOk_j5000010 x) := by
  unfold spec_TxnOk_j5000010
  exact (par_bif ((spec_KeyOk_p x.2.2.2.2.2.2.2.2).bind fun y14 => (par_bif (par_ret _) (par_bif (par_bif (par_ret _) ((spec_TxnOk_jp5000012 (x.1, x.2.1, x.2.2.1, x.2.2.2.1, x.2.2.2.2.1, x.2.2.2.2.2.1, x.2.2.2.2.2.2.1, x.2.2.2.2.2.2.2.1, x.2.2.2.2.2.2.2.2)).bind fun z15 => (par_ret _))) ((spec_TxnOk_jp5000012 (x.1, x.2.1, x.2.2.1, x.2.2.2.1, x.2.2.2.2.1, x.2.2.2.2.2.1, x.2.2.2.2.2.2.1, x.2.2.2.2.2.2.2.1, x.2.2.2.2.2.2.2.2)).bind fun z16 => (par_ret _))))) (par_bif (par_bif (par_ret _) ((spec_TxnOk_jp5000012 (x.1, x.2.1, x.2.2.1, x.2.2.2.1, x.2.2.2.2.1, x.2.2.2.2.2.1, x.2.2.2.2.2.2.1, x.2.2.2.2.2.2.2.1, x.2.2.2.2.2.2.2.2)).bind fun z17 => (par_ret _))) ((spec_TxnOk_jp5000012 (x.1, x.2.1, x.2.2.1, x.2.2.2.1, x.2.2.2.2.1, x.2.2.2.2.2.1, x.2.2.2.2.2.2.1, x.2.2.2.2.2.2.2.1, x.2.2.2.2.2.2.2.2)).bind fun z18 => (par_ret _))))

def spec_TxnOk_b0 (x : (Bool × Int × Int × Int × Int × Int × (List dRange) × (List dWrite) × Bool × ByteArray)) (k : (Bool × Int × Int × Int × Int × Int × (List dRange) × (List dWrite) × Bool × ByteArray) ⊕ ((Bool × Int × Int × Int × Int × Int × (List dRange) × (List dWrite) × Bool × ByteArray) ⊕ (Bool × Int × Int × Int × Int × Int × (List dRange) × (List dWrite) × Bool × ByteArray)) → Option Res) : Option Res :=
    bif (decide (x.2.1 < (x.2.2.2.2.2.2.1.length : Int))) then
      if 0 ≤ x.2.1 ∧ x.2.1 < (x.2.2.2.2.2.2.1.length : Int) then
        spec_RangeOk_k (rd (Ty.zero tRange) x.2.2.2.2.2.2.1 x.2.1) (fun y6 =>
          bif (!y6) then
            k (.inr (.inl (false, x.2.1, x.2.2.1, x.2.2.2.1, x.2.2.2.2.1, x.2.2.2.2.2.1, x.2.2.2.2.2.2.1, x.2.2.2.2.2.2.2.1, x.2.2.2.2.2.2.2.2.1, x.2.2.2.2.2.2.2.2.2)))
          else
            k (.inl (x.1, (IntKind.wrap .i64 (x.2.1 + (1 : Int))), x.2.2.1, x.2.2.2.1, x.2.2.2.2.1, x.2.2.2.2.2.1, x.2.2.2.2.2.2.1, x.2.2.2.2.2.2.2.1, x.2.2.2.2.2.2.2.2.1, x.2.2.2.2.2.2.2.2.2)))
      else none
    else
      k (.inr (.inr (x.1, x.2.1, x.2.2.1, x.2.2.2.1, x.2.2.2.2.1, x.2.2.2.2.2.1, x.2.2.2.2.2.2.1, x.2.2.2.2.2.2.2.1, x.2.2.2.2.2.2.2.2.1, x.2.2.2.2.2.2.2.2.2)))

theorem spec_TxnOk_bp0 (x : (Bool × Int × Int × Int × Int × Int × (List dRange) × (List dWrite) × Bool × ByteArray)) : Par (spec_TxnOk_b0 x) := by
  unfold spec_TxnOk_b0
  exact (par_bif (par_ite (c := 0 ≤ x.2.1 ∧ x.2.1 < (x.2.2.2.2.2.2.1.length : Int)) ((spec_RangeOk_p (rd (Ty.zero tRange) x.2.2.2.2.2.2.1 x.2.1)).bind fun y6 => (par_bif (par_ret _) (par_ret _))) par_none) (par_ret _))

def spec_TxnOk_j5000003 (x : (Bool × Int × Int × Int × Int × (List dRange) × (List dWrite) × Bool × ByteArray)) (k : (Bool × Int × Int × Int × Int × (List dRange) × (List dWrite) × Bool × ByteArray) → Option Res) : Option Res :=
    loopK spec_TxnOk_b0 Fuel (x.1, (0 : Int), x.2.1, x.2.2.1, x.2.2.2.1, x.2.2.2.2.1, x.2.2.2.2.2.1, x.2.2.2.2.2.2.1, x.2.2.2.2.2.2.2.1, x.2.2.2.2.2.2.2.2) (Sum.elim (fun z7 =>
      k (z7.1, z7.2.2.1, z7.2.2.2.1, z7.2.2.2.2.1, z7.2.2.2.2.2.1, z7.2.2.2.2.2.2.1, z7.2.2.2.2.2.2.2.1, z7.2.2.2.2.2.2.2.2.1, z7.2.2.2.2.2.2.2.2.2)) (fun z8 =>
      bif (z8.2.2.2.1 == (3 : Int)) then
        spec_l01In_k z8.2.2.2.2.2.1 (IntKind.wrap .i64 (z8.2.2.2.2.1 + (1 : Int))) (9999 : Int) (fun y9 =>
          bif (!y9) then
            k (false, z8.2.2.1, z8.2.2.2.1, z8.2.2.2.2.1, z8.2.2.2.2.2.1, z8.2.2.2.2.2.2.1, z8.2.2.2.2.2.2.2.1, z8.2.2.2.2.2.2.2.2.1, z8.2.2.2.2.2.2.2.2.2)
          else
            bif (z8.2.2.2.1 != (3 : Int)) then
              bif (z8.2.2.2.2.2.1 != (0 : Int)) then
                k (false, z8.2.2.1, z8.2.2.2.1, z8.2.2.2.2.1, z8.2.2.2.2.2.1, z8.2.2.2.2.2.2.1, z8.2.2.2.2.2.2.2.1, z8.2.2.2.2.2.2.2.2.1, z8.2.2.2.2.2.2.2.2.2)
              else
                spec_TxnOk_j5000010 (z8.1, z8.2.2.1, z8.2.2.2.1, z8.2.2.2.2.1, z8.2.2.2.2.2.1, z8.2.2.2.2.2.2.1, z8.2.2.2.2.2.2.2.1, z8.2.2.2.2.2.2.2.2.1, z8.2.2.2.2.2.2.2.2.2) (fun z10 =>
                  k (z10.1, z10.2.1, z10.2.2.1, z10.2.2.2.1, z10.2.2.2.2.1, z10.2.2.2.2.2.1, z10.2.2.2.2.2.2.1, z10.2.2.2.2.2.2.2.1, z10.2.2.2.2.2.2.2.2))
            else
              spec_TxnOk_j5000010 (z8.1, z8.2.2.1, z8.2.2.2.1, z8.2.2.2.2.1, z8.2.2.2.2.2.1, z8.2.2.2.2.2.2.1, z8.2.2.2.2.2.2.2.1, z8.2.2.2.2.2.2.2.2.1, z8.2.2.2.2.2.2.2.2.2) (fun z11 =>
                k (z11.1, z11.2.1, z11.2.2.1, z11.2.2.2.1, z11.2.2.2.2.1, z11.2.2.2.2.2.1, z11.2.2.2.2.2.2.1, z11.2.2.2.2.2.2.2.1, z11.2.2.2.2.2.2.2.2)))
      else
        bif (z8.2.2.2.1 != (3 : Int)) then
          bif (z8.2.2.2.2.2.1 != (0 : Int)) then
            k (false, z8.2.2.1, z8.2.2.2.1, z8.2.2.2.2.1, z8.2.2.2.2.2.1, z8.2.2.2.2.2.2.1, z8.2.2.2.2.2.2.2.1, z8.2.2.2.2.2.2.2.2.1, z8.2.2.2.2.2.2.2.2.2)
          else
            spec_TxnOk_j5000010 (z8.1, z8.2.2.1, z8.2.2.2.1, z8.2.2.2.2.1, z8.2.2.2.2.2.1, z8.2.2.2.2.2.2.1, z8.2.2.2.2.2.2.2.1, z8.2.2.2.2.2.2.2.2.1, z8.2.2.2.2.2.2.2.2.2) (fun z12 =>
              k (z12.1, z12.2.1, z12.2.2.1, z12.2.2.2.1, z12.2.2.2.2.1, z12.2.2.2.2.2.1, z12.2.2.2.2.2.2.1, z12.2.2.2.2.2.2.2.1, z12.2.2.2.2.2.2.2.2))
        else
          spec_TxnOk_j5000010 (z8.1, z8.2.2.1, z8.2.2.2.1, z8.2.2.2.2.1, z8.2.2.2.2.2.1, z8.2.2.2.2.2.2.1, z8.2.2.2.2.2.2.2.1, z8.2.2.2.2.2.2.2.2.1, z8.2.2.2.2.2.2.2.2.2) (fun z13 =>
            k (z13.1, z13.2.1, z13.2.2.1, z13.2.2.2.1, z13.2.2.2.2.1, z13.2.2.2.2.2.1, z13.2.2.2.2.2.2.1, z13.2.2.2.2.2.2.2.1, z13.2.2.2.2.2.2.2.2))))

theorem spec_TxnOk_jp5000003 (x : (Bool × Int × Int × Int × Int × (List dRange) × (List dWrite) × Bool × ByteArray)) : Par (spec_TxnOk_j5000003 x) := by
  unfold spec_TxnOk_j5000003
  exact ((par_loop spec_TxnOk_bp0 Fuel (x.1, (0 : Int), x.2.1, x.2.2.1, x.2.2.2.1, x.2.2.2.2.1, x.2.2.2.2.2.1, x.2.2.2.2.2.2.1, x.2.2.2.2.2.2.2.1, x.2.2.2.2.2.2.2.2)).bind2 (fun z7 => (par_ret _)) (fun z8 => (par_bif ((spec_l01In_p z8.2.2.2.2.2.1 (IntKind.wrap .i64 (z8.2.2.2.2.1 + (1 : Int))) (9999 : Int)).bind fun y9 => (par_bif (par_ret _) (par_bif (par_bif (par_ret _) ((spec_TxnOk_jp5000010 (z8.1, z8.2.2.1, z8.2.2.2.1, z8.2.2.2.2.1, z8.2.2.2.2.2.1, z8.2.2.2.2.2.2.1, z8.2.2.2.2.2.2.2.1, z8.2.2.2.2.2.2.2.2.1, z8.2.2.2.2.2.2.2.2.2)).bind fun z10 => (par_ret _))) ((spec_TxnOk_jp5000010 (z8.1, z8.2.2.1, z8.2.2.2.1, z8.2.2.2.2.1, z8.2.2.2.2.2.1, z8.2.2.2.2.2.2.1, z8.2.2.2.2.2.2.2.1, z8.2.2.2.2.2.2.2.2.1, z8.2.2.2.2.2.2.2.2.2)).bind fun z11 => (par_ret _))))) (par_bif (par_bif (par_ret _) ((spec_TxnOk_jp5000010 (z8.1, z8.2.2.1, z8.2.2.2.1, z8.2.2.2.2.1, z8.2.2.2.2.2.1, z8.2.2.2.2.2.2.1, z8.2.2.2.2.2.2.2.1, z8.2.2.2.2.2.2.2.2.1, z8.2.2.2.2.2.2.2.2.2)).bind fun z12 => (par_ret _))) ((spec_TxnOk_jp5000010 (z8.1, z8.2.2.1, z8.2.2.2.1, z8.2.2.2.2.1, z8.2.2.2.2.2.1, z8.2.2.2.2.2.2.1, z8.2.2.2.2.2.2.2.1, z8.2.2.2.2.2.2.2.2.1, z8.2.2.2.2.2.2.2.2.2)).bind fun z13 => (par_ret _))))))

def spec_TxnOk_d (a0 : dTxn) (k : Bool → Option Res) : Option Res :=
  spec_l01In_k a0.1 (1 : Int) (9999 : Int) (fun y1 =>
    bif (!y1) then
      k false
    else
      spec_l01In_k a0.2.1 (1 : Int) (3 : Int) (fun y2 =>
        bif (!y2) then
          k false
        else
          spec_l01In_k a0.2.2.1 (0 : Int) (9999 : Int) (fun y3 =>
            bif (!y3) then
              k false
            else
              bif (decide ((a0.2.2.2.2.1.length : Int) > (8 : Int))) then
                k false
              else
                spec_WritesOk_k a0.2.2.2.2.2.1 (fun y4 =>
                  bif (!y4) then
                    k false
                  else
                    spec_TxnOk_j5000003 (false, a0.1, a0.2.1, a0.2.2.1, a0.2.2.2.1, a0.2.2.2.2.1, a0.2.2.2.2.2.1, a0.2.2.2.2.2.2.1, a0.2.2.2.2.2.2.2) (fun z5 =>
                      k z5.1)))))

theorem spec_TxnOk_h : ∃ g : dTxn → (Bool → Option Res) → Option Res, g = spec_TxnOk_d := ⟨_, rfl⟩
def spec_TxnOk_k : dTxn → (Bool → Option Res) → Option Res := Classical.choose spec_TxnOk_h
theorem spec_TxnOk_e : spec_TxnOk_k = spec_TxnOk_d := Classical.choose_spec spec_TxnOk_h

theorem spec_TxnOk_p (a0 : dTxn) : Par (spec_TxnOk_k a0) := by
  rw [spec_TxnOk_e]
  unfold spec_TxnOk_d
  exact ((spec_l01In_p a0.1 (1 : Int) (9999 : Int)).bind fun y1 => (par_bif (par_ret _) ((spec_l01In_p a0.2.1 (1 : Int) (3 : Int)).bind fun y2 => (par_bif (par_ret _) ((spec_l01In_p a0.2.2.1 (0 : Int) (9999 : Int)).bind fun y3 => (par_bif (par_ret _) (par_bif (par_ret _) ((spec_WritesOk_p a0.2.2.2.2.2.1).bind fun y4 => (par_bif (par_ret _) ((spec_TxnOk_jp5000003 (false, a0.1, a0.2.1, a0.2.2.1, a0.2.2.2.1, a0.2.2.2.2.1, a0.2.2.2.2.2.1, a0.2.2.2.2.2.2.1, a0.2.2.2.2.2.2.2)).bind fun z5 => (par_ret _)))))))))))

def spec_ReadRange_b0 (x : (Bool × Int × Int × Int × Int × Int × (List dRange) × (List dWrite) × Bool × ByteArray × ByteArray × ByteArray × Int × Int × Int × Int × Bool × ByteArray × Int × Int × Int × Int × Bool × ByteArray × (List dRange) × (List dWrite) × (List dRange) × (List dWrite))) (k : (Bool × Int × Int × Int × Int × Int × (List dRange) × (List dWrite) × Bool × ByteArray × ByteArray × ByteArray × Int × Int × Int × Int × Bool × ByteArray × Int × Int × Int × Int × Bool × ByteArray × (List dRange) × (List dWrite) × (List dRange) × (List dWrite)) ⊕ ((Bool × Int × Int × Int × Int × Int × (List dRange) × (List dWrite) × Bool × ByteArray × ByteArray × ByteArray × Int × Int × Int × Int × Bool × ByteArray × Int × Int × Int × Int × Bool × ByteArray × (List dRange) × (List dWrite) × (List dRange) × (List dWrite)) ⊕ (Bool × Int × Int × Int × Int × Int × (List dRange) × (List dWrite) × Bool × ByteArray × ByteArray × ByteArray × Int × Int × Int × Int × Bool × ByteArray × Int × Int × Int × Int × Bool × ByteArray × (List dRange) × (List dWrite))) → Option Res) : Option Res :=
    bif (decide (x.2.1 < (x.2.2.2.2.2.2.1.length : Int))) then
      if 0 ≤ x.2.1 ∧ x.2.1 < (x.2.2.2.2.2.2.1.length : Int) then
        bif (Ty.eqB tRange (rd (Ty.zero tRange) x.2.2.2.2.2.2.1 x.2.1) (x.2.2.2.2.2.2.2.2.2.2.1, x.2.2.2.2.2.2.2.2.2.2.2.1)) then
          k (.inr (.inr (true, x.2.1, x.2.2.1, x.2.2.2.1, x.2.2.2.2.1, x.2.2.2.2.2.1, x.2.2.2.2.2.2.1, x.2.2.2.2.2.2.2.1, x.2.2.2.2.2.2.2.2.1, x.2.2.2.2.2.2.2.2.2.1, x.2.2.2.2.2.2.2.2.2.2.1, x.2.2.2.2.2.2.2.2.2.2.2.1, x.2.2.2.2.2.2.2.2.2.2.2.2.2.2.2.2.2.2.1, x.2.2.2.2.2.2.2.2.2.2.2.2.2.2.2.2.2.2.2.1, x.2.2.2.2.2.2.2.2.2.2.2.2.2.2.2.2.2.2.2.2.1, x.2.2.2.2.2.2.2.2.2.2.2.2.2.2.2.2.2.2.2.2.2.1, x.2.2.2.2.2.2.2.2.2.2.2.2.2.2.2.2.2.2.2.2.2.2.1, x.2.2.2.2.2.2.2.2.2.2.2.2.2.2.2.2.2.2.2.2.2.2.2.1, x.2.2.2.2.2.2.2.2.2.2.2.2.2.2.2.2.2.2.1, x.2.2.2.2.2.2.2.2.2.2.2.2.2.2.2.2.2.2.2.1, x.2.2.2.2.2.2.2.2.2.2.2.2.2.2.2.2.2.2.2.2.1, x.2.2.2.2.2.2.2.2.2.2.2.2.2.2.2.2.2.2.2.2.2.1, x.2.2.2.2.2.2.2.2.2.2.2.2.2.2.2.2.2.2.2.2.2.2.1, x.2.2.2.2.2.2.2.2.2.2.2.2.2.2.2.2.2.2.2.2.2.2.2.1, x.2.2.2.2.2.2.2.2.2.2.2.2.2.2.2.2.2.2.2.2.2.2.2.2.2.2.1, x.2.2.2.2.2.2.2.2.2.2.2.2.2.2.2.2.2.2.2.2.2.2.2.2.2.2.2)))
        else
          k (.inl (x.1, (IntKind.wrap .i64 (x.2.1 + (1 : Int))), x.2.2.1, x.2.2.2.1, x.2.2.2.2.1, x.2.2.2.2.2.1, x.2.2.2.2.2.2.1, x.2.2.2.2.2.2.2.1, x.2.2.2.2.2.2.2.2.1, x.2.2.2.2.2.2.2.2.2.1, x.2.2.2.2.2.2.2.2.2.2.1, x.2.2.2.2.2.2.2.2.2.2.2.1, x.2.2.2.2.2.2.2.2.2.2.2.2.1, x.2.2.2.2.2.2.2.2.2.2.2.2.2.1, x.2.2.2.2.2.2.2.2.2.2.2.2.2.2.1, x.2.2.2.2.2.2.2.2.2.2.2.2.2.2.2.1, x.2.2.2.2.2.2.2.2.2.2.2.2.2.2.2.2.1, x.2.2.2.2.2.2.2.2.2.2.2.2.2.2.2.2.2.1, x.2.2.2.2.2.2.2.2.2.2.2.2.2.2.2.2.2.2.1, x.2.2.2.2.2.2.2.2.2.2.2.2.2.2.2.2.2.2.2.1, x.2.2.2.2.2.2.2.2.2.2.2.2.2.2.2.2.2.2.2.2.1, x.2.2.2.2.2.2.2.2.2.2.2.2.2.2.2.2.2.2.2.2.2.1, x.2.2.2.2.2.2.2.2.2.2.2.2.2.2.2.2.2.2.2.2.2.2.1, x.2.2.2.2.2.2.2.2.2.2.2.2.2.2.2.2.2.2.2.2.2.2.2.1, x.2.2.2.2.2.2.2.2.2.2.2.2.2.2.2.2.2.2.2.2.2.2.2.2.1, x.2.2.2.2.2.2.2.2.2.2.2.2.2.2.2.2.2.2.2.2.2.2.2.2.2.1, x.2.2.2.2.2.2.2.2.2.2.2.2.2.2.2.2.2.2.2.2.2.2.2.2.2.2.1, x.2.2.2.2.2.2.2.2.2.2.2.2.2.2.2.2.2.2.2.2.2.2.2.2.2.2.2))
      else none
    else
      k (.inr (.inl (x.1, x.2.1, x.2.2.1, x.2.2.2.1, x.2.2.2.2.1, x.2.2.2.2.2.1, x.2.2.2.2.2.2.1, x.2.2.2.2.2.2.2.1, x.2.2.2.2.2.2.2.2.1, x.2.2.2.2.2.2.2.2.2.1, x.2.2.2.2.2.2.2.2.2.2.1, x.2.2.2.2.2.2.2.2.2.2.2.1, x.2.2.2.2.2.2.2.2.2.2.2.2.1, x.2.2.2.2.2.2.2.2.2.2.2.2.2.1, x.2.2.2.2.2.2.2.2.2.2.2.2.2.2.1, x.2.2.2.2.2.2.2.2.2.2.2.2.2.2.2.1, x.2.2.2.2.2.2.2.2.2.2.2.2.2.2.2.2.1, x.2.2.2.2.2.2.2.2.2.2.2.2.2.2.2.2.2.1, x.2.2.2.2.2.2.2.2.2.2.2.2.2.2.2.2.2.2.1, x.2.2.2.2.2.2.2.2.2.2.2.2.2.2.2.2.2.2.2.1, x.2.2.2.2.2.2.2.2.2.2.2.2.2.2.2.2.2.2.2.2.1, x.2.2.2.2.2.2.2.2.2.2.2.2.2.2.2.2.2.2.2.2.2.1, x.2.2.2.2.2.2.2.2.2.2.2.2.2.2.2.2.2.2.2.2.2.2.1, x.2.2.2.2.2.2.2.2.2.2.2.2.2.2.2.2.2.2.2.2.2.2.2.1, x.2.2.2.2.2.2.2.2.2.2.2.2.2.2.2.2.2.2.2.2.2.2.2.2.1, x.2.2.2.2.2.2.2.2.2.2.2.2.2.2.2.2.2.2.2.2.2.2.2.2.2.1, x.2.2.2.2.2.2.2.2.2.2.2.2.2.2.2.2.2.2.2.2.2.2.2.2.2.2.1, x.2.2.2.2.2.2.2.2.2.2.2.2.2.2.2.2.2.2.2.2.2.2.2.2.2.2.2)))

theorem spec_ReadRange_bp0 (x : (Bool × Int × Int × Int × Int × Int × (List dRange) × (List dWrite) × Bool × ByteArray × ByteArray × ByteArray × Int × Int × Int × Int × Bool × ByteArray × Int × Int × Int × Int × Bool × ByteArray × (List dRange) × (List dWrite) × (List dRange) × (List dWrite))) : Par (spec_ReadRange_b0 x) := by
  unfold spec_ReadRange_b0
  exact (par_bif (par_ite (c := 0 ≤ x.2.1 ∧ x.2.1 < (x.2.2.2.2.2.2.1.length : Int)) (par_bif (par_ret _) (par_ret _)) par_none) (par_ret _))

def spec_ReadRange_j5000004 (x : (Bool × Int × Int × Int × Int × (List dRange) × (List dWrite) × Bool × ByteArray × ByteArray × ByteArray × Int × Int × Int × Int × Bool × ByteArray × Int × Int × Int × Int × Bool × ByteArray × (List dRange) × (List dWrite) × (List dRange) × (List dWrite))) (k : (Bool × Int × Int × Int × Int × (List dRange) × (List dWrite) × Bool × ByteArray × ByteArray × ByteArray × Int × Int × Int × Int × Bool × ByteArray × Int × Int × Int × Int × Bool × ByteArray × (List dRange) × (List dWrite)) → Option Res) : Option Res :=
    loopK spec_ReadRange_b0 Fuel (x.1, (0 : Int), x.2.1, x.2.2.1, x.2.2.2.1, x.2.2.2.2.1, x.2.2.2.2.2.1, x.2.2.2.2.2.2.1, x.2.2.2.2.2.2.2.1, x.2.2.2.2.2.2.2.2.1, x.2.2.2.2.2.2.2.2.2.1, x.2.2.2.2.2.2.2.2.2.2.1, x.2.2.2.2.2.2.2.2.2.2.2.1, x.2.2.2.2.2.2.2.2.2.2.2.2.1, x.2.2.2.2.2.2.2.2.2.2.2.2.2.1, x.2.2.2.2.2.2.2.2.2.2.2.2.2.2.1, x.2.2.2.2.2.2.2.2.2.2.2.2.2.2.2.1, x.2.2.2.2.2.2.2.2.2.2.2.2.2.2.2.2.1, x.2.2.2.2.2.2.2.2.2.2.2.2.2.2.2.2.2.1, x.2.2.2.2.2.2.2.2.2.2.2.2.2.2.2.2.2.2.1, x.2.2.2.2.2.2.2.2.2.2.2.2.2.2.2.2.2.2.2.1, x.2.2.2.2.2.2.2.2.2.2.2.2.2.2.2.2.2.2.2.2.1, x.2.2.2.2.2.2.2.2.2.2.2.2.2.2.2.2.2.2.2.2.2.1, x.2.2.2.2.2.2.2.2.2.2.2.2.2.2.2.2.2.2.2.2.2.2.1, x.2.2.2.2.2.2.2.2.2.2.2.2.2.2.2.2.2.2.2.2.2.2.2.1, x.2.2.2.2.2.2.2.2.2.2.2.2.2.2.2.2.2.2.2.2.2.2.2.2.1, x.2.2.2.2.2.2.2.2.2.2.2.2.2.2.2.2.2.2.2.2.2.2.2.2.2.1, x.2.2.2.2.2.2.2.2.2.2.2.2.2.2.2.2.2.2.2.2.2.2.2.2.2.2) (Sum.elim (fun z5 =>
      bif (decide ((z5.2.2.2.2.2.2.1.length : Int) ≥ (8 : Int))) then
        k (false, z5.2.2.1, z5.2.2.2.1, z5.2.2.2.2.1, z5.2.2.2.2.2.1, z5.2.2.2.2.2.2.1, z5.2.2.2.2.2.2.2.1, z5.2.2.2.2.2.2.2.2.1, z5.2.2.2.2.2.2.2.2.2.1, z5.2.2.2.2.2.2.2.2.2.2.1, z5.2.2.2.2.2.2.2.2.2.2.2.1, z5.2.2.2.2.2.2.2.2.2.2.2.2.2.2.2.2.2.2.1, z5.2.2.2.2.2.2.2.2.2.2.2.2.2.2.2.2.2.2.2.1, z5.2.2.2.2.2.2.2.2.2.2.2.2.2.2.2.2.2.2.2.2.1, z5.2.2.2.2.2.2.2.2.2.2.2.2.2.2.2.2.2.2.2.2.2.1, z5.2.2.2.2.2.2.2.2.2.2.2.2.2.2.2.2.2.2.2.2.2.2.1, z5.2.2.2.2.2.2.2.2.2.2.2.2.2.2.2.2.2.2.2.2.2.2.2.1, z5.2.2.2.2.2.2.2.2.2.2.2.2.2.2.2.2.2.2.1, z5.2.2.2.2.2.2.2.2.2.2.2.2.2.2.2.2.2.2.2.1, z5.2.2.2.2.2.2.2.2.2.2.2.2.2.2.2.2.2.2.2.2.1, z5.2.2.2.2.2.2.2.2.2.2.2.2.2.2.2.2.2.2.2.2.2.1, z5.2.2.2.2.2.2.2.2.2.2.2.2.2.2.2.2.2.2.2.2.2.2.1, z5.2.2.2.2.2.2.2.2.2.2.2.2.2.2.2.2.2.2.2.2.2.2.2.1, z5.2.2.2.2.2.2.2.2.2.2.2.2.2.2.2.2.2.2.2.2.2.2.2.2.2.2.1, z5.2.2.2.2.2.2.2.2.2.2.2.2.2.2.2.2.2.2.2.2.2.2.2.2.2.2.2)
      else
        if z5.2.2.2.2.2.2.2.2.2.2.2.2.2.2.2.2.2.2.2.2.2.2.2.2.2.2.1.length + [(z5.2.2.2.2.2.2.2.2.2.2.1, z5.2.2.2.2.2.2.2.2.2.2.2.1)].length ≤ VE.maxLen then
          k (true, z5.2.2.1, z5.2.2.2.1, z5.2.2.2.2.1, z5.2.2.2.2.2.1, z5.2.2.2.2.2.2.1, z5.2.2.2.2.2.2.2.1, z5.2.2.2.2.2.2.2.2.1, z5.2.2.2.2.2.2.2.2.2.1, z5.2.2.2.2.2.2.2.2.2.2.1, z5.2.2.2.2.2.2.2.2.2.2.2.1, z5.2.2.2.2.2.2.2.2.2.2.2.2.2.2.2.2.2.2.1, z5.2.2.2.2.2.2.2.2.2.2.2.2.2.2.2.2.2.2.2.1, z5.2.2.2.2.2.2.2.2.2.2.2.2.2.2.2.2.2.2.2.2.1, z5.2.2.2.2.2.2.2.2.2.2.2.2.2.2.2.2.2.2.2.2.2.1, z5.2.2.2.2.2.2.2.2.2.2.2.2.2.2.2.2.2.2.2.2.2.2.1, z5.2.2.2.2.2.2.2.2.2.2.2.2.2.2.2.2.2.2.2.2.2.2.2.1, z5.2.2.2.2.2.2.2.2.2.2.2.2.2.2.2.2.2.2.1, z5.2.2.2.2.2.2.2.2.2.2.2.2.2.2.2.2.2.2.2.1, z5.2.2.2.2.2.2.2.2.2.2.2.2.2.2.2.2.2.2.2.2.1, z5.2.2.2.2.2.2.2.2.2.2.2.2.2.2.2.2.2.2.2.2.2.1, z5.2.2.2.2.2.2.2.2.2.2.2.2.2.2.2.2.2.2.2.2.2.2.1, z5.2.2.2.2.2.2.2.2.2.2.2.2.2.2.2.2.2.2.2.2.2.2.2.1, (z5.2.2.2.2.2.2.2.2.2.2.2.2.2.2.2.2.2.2.2.2.2.2.2.2.2.2.1 ++ [(z5.2.2.2.2.2.2.2.2.2.2.1, z5.2.2.2.2.2.2.2.2.2.2.2.1)]), z5.2.2.2.2.2.2.2.2.2.2.2.2.2.2.2.2.2.2.2.2.2.2.2.2.2.2.2)
        else none) (fun z6 =>
      k (z6.1, z6.2.2.1, z6.2.2.2.1, z6.2.2.2.2.1, z6.2.2.2.2.2.1, z6.2.2.2.2.2.2.1, z6.2.2.2.2.2.2.2.1, z6.2.2.2.2.2.2.2.2.1, z6.2.2.2.2.2.2.2.2.2.1, z6.2.2.2.2.2.2.2.2.2.2.1, z6.2.2.2.2.2.2.2.2.2.2.2.1, z6.2.2.2.2.2.2.2.2.2.2.2.2.1, z6.2.2.2.2.2.2.2.2.2.2.2.2.2.1, z6.2.2.2.2.2.2.2.2.2.2.2.2.2.2.1, z6.2.2.2.2.2.2.2.2.2.2.2.2.2.2.2.1, z6.2.2.2.2.2.2.2.2.2.2.2.2.2.2.2.2.1, z6.2.2.2.2.2.2.2.2.2.2.2.2.2.2.2.2.2.1, z6.2.2.2.2.2.2.2.2.2.2.2.2.2.2.2.2.2.2.1, z6.2.2.2.2.2.2.2.2.2.2.2.2.2.2.2.2.2.2.2.1, z6.2.2.2.2.2.2.2.2.2.2.2.2.2.2.2.2.2.2.2.2.1, z6.2.2.2.2.2.2.2.2.2.2.2.2.2.2.2.2.2.2.2.2.2.1, z6.2.2.2.2.2.2.2.2.2.2.2.2.2.2.2.2.2.2.2.2.2.2.1, z6.2.2.2.2.2.2.2.2.2.2.2.2.2.2.2.2.2.2.2.2.2.2.2.1, z6.2.2.2.2.2.2.2.2.2.2.2.2.2.2.2.2.2.2.2.2.2.2.2.2.1, z6.2.2.2.2.2.2.2.2.2.2.2.2.2.2.2.2.2.2.2.2.2.2.2.2.2)))

theorem spec_ReadRange_jp5000004 (x : (Bool × Int × Int × Int × Int × (List dRange) × (List dWrite) × Bool × ByteArray × ByteArray × ByteArray × Int × Int × Int × Int × Bool × ByteArray × Int × Int × Int × Int × Bool × ByteArray × (List dRange) × (List dWrite) × (List dRange) × (List dWrite))) : Par (spec_ReadRange_j5000004 x) := by
  unfold spec_ReadRange_j5000004
  exact ((par_loop spec_ReadRange_bp0 Fuel (x.1, (0 : Int), x.2.1, x.2.2.1, x.2.2.2.1, x.2.2.2.2.1, x.2.2.2.2.2.1, x.2.2.2.2.2.2.1, x.2.2.2.2.2.2.2.1, x.2.2.2.2.2.2.2.2.1, x.2.2.2.2.2.2.2.2.2.1, x.2.2.2.2.2.2.2.2.2.2.1, x.2.2.2.2.2.2.2.2.2.2.2.1, x.2.2.2.2.2.2.2.2.2.2.2.2.1, x.2.2.2.2.2.2.2.2.2.2.2.2.2.1, x.2.2.2.2.2.2.2.2.2.2.2.2.2.2.1, x.2.2.2.2.2.2.2.2.2.2.2.2.2.2.2.1, x.2.2.2.2.2.2.2.2.2.2.2.2.2.2.2.2.1, x.2.2.2.2.2.2.2.2.2.2.2.2.2.2.2.2.2.1, x.2.2.2.2.2.2.2.2.2.2.2.2.2.2.2.2.2.2.1, x.2.2.2.2.2.2.2.2.2.2.2.2.2.2.2.2.2.2.2.1, x.2.2.2.2.2.2.2.2.2.2.2.2.2.2.2.2.2.2.2.2.1, x.2.2.2.2.2.2.2.2.2.2.2.2.2.2.2.2.2.2.2.2.2.1, x.2.2.2.2.2.2.2.2.2.2.2.2.2.2.2.2.2.2.2.2.2.2.1, x.2.2.2.2.2.2.2.2.2.2.2.2.2.2.2.2.2.2.2.2.2.2.2.1, x.2.2.2.2.2.2.2.2.2.2.2.2.2.2.2.2.2.2.2.2.2.2.2.2.1, x.2.2.2.2.2.2.2.2.2.2.2.2.2.2.2.2.2.2.2.2.2.2.2.2.2.1, x.2.2.2.2.2.2.2.2.2.2.2.2.2.2.2.2.2.2.2.2.2.2.2.2.2.2)).bind2 (fun z5 => (par_bif (par_ret _) (par_ite (c := z5.2.2.2.2.2.2.2.2.2.2.2.2.2.2.2.2.2.2.2.2.2.2.2.2.2.2.1.length + [(z5.2.2.2.2.2.2.2.2.2.2.1, z5.2.2.2.2.2.2.2.2.2.2.2.1)].length ≤ VE.maxLen) (par_ret _) par_none))) (fun z6 => (par_ret _)))

def spec_ReadRange_d (a0 : dTxn) (a1 : dRange) (k : (Int × Int × Int × Int × Bool × ByteArray × Bool × (List dRange) × (List dWrite)) → Option Res) : Option Res :=
  spec_l07Copy_k a0 (fun y1 =>
    spec_TxnOk_k a0 (fun y2 =>
      bif (!y2) then
        k (y1.1, y1.2.1, y1.2.2.1, y1.2.2.2.1, y1.2.2.2.2.1, y1.2.2.2.2.2.1, false, y1.2.2.2.2.2.2.1, y1.2.2.2.2.2.2.2)
      else
        bif (a0.2.1 != (1 : Int)) then
          k (y1.1, y1.2.1, y1.2.2.1, y1.2.2.2.1, y1.2.2.2.2.1, y1.2.2.2.2.2.1, false, y1.2.2.2.2.2.2.1, y1.2.2.2.2.2.2.2)
        else
          spec_RangeOk_k a1 (fun y3 =>
            bif (!y3) then
              k (y1.1, y1.2.1, y1.2.2.1, y1.2.2.2.1, y1.2.2.2.2.1, y1.2.2.2.2.2.1, false, y1.2.2.2.2.2.2.1, y1.2.2.2.2.2.2.2)
            else
              spec_ReadRange_j5000004 (false, a0.1, a0.2.1, a0.2.2.1, a0.2.2.2.1, a0.2.2.2.2.1, a0.2.2.2.2.2.1, a0.2.2.2.2.2.2.1, a0.2.2.2.2.2.2.2, a1.1, a1.2, (0 : Int), (0 : Int), (0 : Int), (0 : Int), false, (⟨#[]⟩ : ByteArray), y1.1, y1.2.1, y1.2.2.1, y1.2.2.2.1, y1.2.2.2.2.1, y1.2.2.2.2.2.1, ([] : List dRange), ([] : List dWrite), y1.2.2.2.2.2.2.1, y1.2.2.2.2.2.2.2) (fun z4 =>
                k (z4.2.2.2.2.2.2.2.2.2.2.2.1, z4.2.2.2.2.2.2.2.2.2.2.2.2.1, z4.2.2.2.2.2.2.2.2.2.2.2.2.2.1, z4.2.2.2.2.2.2.2.2.2.2.2.2.2.2.1, z4.2.2.2.2.2.2.2.2.2.2.2.2.2.2.2.1, z4.2.2.2.2.2.2.2.2.2.2.2.2.2.2.2.2.1, z4.1, z4.2.2.2.2.2.2.2.2.2.2.2.2.2.2.2.2.2.2.2.2.2.2.2.1, z4.2.2.2.2.2.2.2.2.2.2.2.2.2.2.2.2.2.2.2.2.2.2.2.2)))))

theorem spec_ReadRange_h : ∃ g : dTxn → dRange → ((Int × Int × Int × Int × Bool × ByteArray × Bool × (List dRange) × (List dWrite)) → Option Res) → Option Res, g = spec_ReadRange_d := ⟨_, rfl⟩
def spec_ReadRange_k : dTxn → dRange → ((Int × Int × Int × Int × Bool × ByteArray × Bool × (List dRange) × (List dWrite)) → Option Res) → Option Res := Classical.choose spec_ReadRange_h
theorem spec_ReadRange_e : spec_ReadRange_k = spec_ReadRange_d := Classical.choose_spec spec_ReadRange_h

theorem spec_ReadRange_p (a0 : dTxn) (a1 : dRange) : Par (spec_ReadRange_k a0 a1) := by
  rw [spec_ReadRange_e]
  unfold spec_ReadRange_d
  exact ((spec_l07Copy_p a0).bind fun y1 => ((spec_TxnOk_p a0).bind fun y2 => (par_bif (par_ret _) (par_bif (par_ret _) ((spec_RangeOk_p a1).bind fun y3 => (par_bif (par_ret _) ((spec_ReadRange_jp5000004 (false, a0.1, a0.2.1, a0.2.2.1, a0.2.2.2.1, a0.2.2.2.2.1, a0.2.2.2.2.2.1, a0.2.2.2.2.2.2.1, a0.2.2.2.2.2.2.2, a1.1, a1.2, (0 : Int), (0 : Int), (0 : Int), (0 : Int), false, (⟨#[]⟩ : ByteArray), y1.1, y1.2.1, y1.2.2.1, y1.2.2.2.1, y1.2.2.2.2.1, y1.2.2.2.2.2.1, ([] : List dRange), ([] : List dWrite), y1.2.2.2.2.2.2.1, y1.2.2.2.2.2.2.2)).bind fun z4 => (par_ret _))))))))

def impl_copyTxn_d (a0 : dTxn) (k : (Int × Int × Int × Int × Bool × ByteArray × (List dRange) × (List dWrite)) → Option Res) : Option Res :=
  if a0.2.2.2.2.1.length ≤ VE.maxLen then
    if a0.2.2.2.2.2.1.length ≤ VE.maxLen then
      k (a0.1, a0.2.1, a0.2.2.1, a0.2.2.2.1, a0.2.2.2.2.2.2.1, a0.2.2.2.2.2.2.2, a0.2.2.2.2.1, a0.2.2.2.2.2.1)
    else none
  else none

theorem impl_copyTxn_h : ∃ g : dTxn → ((Int × Int × Int × Int × Bool × ByteArray × (List dRange) × (List dWrite)) → Option Res) → Option Res, g = impl_copyTxn_d := ⟨_, rfl⟩
def impl_copyTxn_k : dTxn → ((Int × Int × Int × Int × Bool × ByteArray × (List dRange) × (List dWrite)) → Option Res) → Option Res := Classical.choose impl_copyTxn_h
theorem impl_copyTxn_e : impl_copyTxn_k = impl_copyTxn_d := Classical.choose_spec impl_copyTxn_h

theorem impl_copyTxn_p (a0 : dTxn) : Par (impl_copyTxn_k a0) := by
  rw [impl_copyTxn_e]
  unfold impl_copyTxn_d
  exact (par_ite (c := a0.2.2.2.2.1.length ≤ VE.maxLen) (par_ite (c := a0.2.2.2.2.2.1.length ≤ VE.maxLen) (par_ret _) par_none) par_none)

def impl_within_d (a0 : Int) (a1 : Int) (a2 : Int) (k : Bool → Option Res) : Option Res :=
  bif (decide (a0 ≥ a1)) then
    k (decide (a0 ≤ a2))
  else
    k false

theorem impl_within_h : ∃ g : Int → Int → Int → (Bool → Option Res) → Option Res, g = impl_within_d := ⟨_, rfl⟩
def impl_within_k : Int → Int → Int → (Bool → Option Res) → Option Res := Classical.choose impl_within_h
theorem impl_within_e : impl_within_k = impl_within_d := Classical.choose_spec impl_within_h

theorem impl_within_p (a0 : Int) (a1 : Int) (a2 : Int) : Par (impl_within_k a0 a1 a2) := by
  rw [impl_within_e]
  unfold impl_within_d
  exact (par_bif (par_ret _) (par_ret _))

def impl_KeyOk_b0 (x : (ByteArray × Bool × Int)) (k : (ByteArray × Bool × Int) ⊕ ((ByteArray × Bool × Int) ⊕ (ByteArray × Bool × Int)) → Option Res) : Option Res :=
    bif (decide (x.2.2 < (x.1.size : Int))) then
      if 0 ≤ x.2.2 ∧ x.2.2 < (x.1.size : Int) then
        bif (decide ((bt x.1 x.2.2) < (97 : Int))) then
          k (.inr (.inl (x.1, false, x.2.2)))
        else
          if 0 ≤ x.2.2 ∧ x.2.2 < (x.1.size : Int) then
            bif (decide ((bt x.1 x.2.2) > (122 : Int))) then
              k (.inr (.inl (x.1, false, x.2.2)))
            else
              k (.inl (x.1, x.2.1, (IntKind.wrap .i64 (x.2.2 + (1 : Int)))))
          else none
      else none
    else
      k (.inr (.inr (x.1, x.2.1, x.2.2)))

theorem impl_KeyOk_bp0 (x : (ByteArray × Bool × Int)) : Par (impl_KeyOk_b0 x) := by
  unfold impl_KeyOk_b0
  exact (par_bif (par_ite (c := 0 ≤ x.2.2 ∧ x.2.2 < (x.1.size : Int)) (par_bif (par_ret _) (par_ite (c := 0 ≤ x.2.2 ∧ x.2.2 < (x.1.size : Int)) (par_bif (par_ret _) (par_ret _)) par_none)) par_none) (par_ret _))

def impl_KeyOk_d (a0 : ByteArray) (k : Bool → Option Res) : Option Res :=
  loopK impl_KeyOk_b0 Fuel (a0, false, (0 : Int)) (Sum.elim (fun z1 =>
    k z1.2.1) (fun z2 =>
    impl_within_k (z2.1.size : Int) (1 : Int) (3 : Int) (fun y3 =>
      k y3)))

theorem impl_KeyOk_h : ∃ g : ByteArray → (Bool → Option Res) → Option Res, g = impl_KeyOk_d := ⟨_, rfl⟩
def impl_KeyOk_k : ByteArray → (Bool → Option Res) → Option Res := Classical.choose impl_KeyOk_h
theorem impl_KeyOk_e : impl_KeyOk_k = impl_KeyOk_d := Classical.choose_spec impl_KeyOk_h

theorem impl_KeyOk_p (a0 : ByteArray) : Par (impl_KeyOk_k a0) := by
  rw [impl_KeyOk_e]
  unfold impl_KeyOk_d
  exact ((par_loop impl_KeyOk_bp0 Fuel (a0, false, (0 : Int))).bind2 (fun z1 => (par_ret _)) (fun z2 => ((impl_within_p (z2.1.size : Int) (1 : Int) (3 : Int)).bind fun y3 => (par_ret _))))

def impl_RangeOk_d (a0 : dRange) (k : Bool → Option Res) : Option Res :=
  impl_KeyOk_k a0.1 (fun y1 =>
    bif y1 then
      impl_KeyOk_k a0.2 (fun y2 =>
        bif y2 then
          k ((strLess a0.1 a0.2) || (strEq a0.1 a0.2))
        else
          k false)
    else
      k false)

theorem impl_RangeOk_h : ∃ g : dRange → (Bool → Option Res) → Option Res, g = impl_RangeOk_d := ⟨_, rfl⟩
def impl_RangeOk_k : dRange → (Bool → Option Res) → Option Res := Classical.choose impl_RangeOk_h
theorem impl_RangeOk_e : impl_RangeOk_k = impl_RangeOk_d := Classical.choose_spec impl_RangeOk_h

theorem impl_RangeOk_p (a0 : dRange) : Par (impl_RangeOk_k a0) := by
  rw [impl_RangeOk_e]
  unfold impl_RangeOk_d
  exact ((impl_KeyOk_p a0.1).bind fun y1 => (par_bif ((impl_KeyOk_p a0.2).bind fun y2 => (par_bif (par_ret _) (par_ret _))) (par_ret _)))

def impl_WriteOk_d (a0 : dWrite) (k : Bool → Option Res) : Option Res :=
  impl_KeyOk_k a0.1 (fun y1 =>
    bif y1 then
      bif (decide ((a0.2.1.size : Int) ≤ (12 : Int))) then
        bif (!a0.2.2) then
          k true
        else
          k (strEq a0.2.1 (⟨#[]⟩ : ByteArray))
      else
        k false
    else
      k false)

theorem impl_WriteOk_h : ∃ g : dWrite → (Bool → Option Res) → Option Res, g = impl_WriteOk_d := ⟨_, rfl⟩
def impl_WriteOk_k : dWrite → (Bool → Option Res) → Option Res := Classical.choose impl_WriteOk_h
theorem impl_WriteOk_e : impl_WriteOk_k = impl_WriteOk_d := Classical.choose_spec impl_WriteOk_h

theorem impl_WriteOk_p (a0 : dWrite) : Par (impl_WriteOk_k a0) := by
  rw [impl_WriteOk_e]
  unfold impl_WriteOk_d
  exact ((impl_KeyOk_p a0.1).bind fun y1 => (par_bif (par_bif (par_bif (par_ret _) (par_ret _)) (par_ret _)) (par_ret _)))

def impl_WritesOk_b0 (x : ((List dWrite) × Bool × (List dWrite) × Int × Int)) (k : ((List dWrite) × Bool × (List dWrite) × Int × Int) ⊕ (((List dWrite) × Bool × (List dWrite) × Int × Int) ⊕ ((List dWrite) × Bool × (List dWrite) × Int × Int)) → Option Res) : Option Res :=
    bif (decide (x.2.2.2.2 < x.2.2.2.1)) then
      if 0 ≤ x.2.2.2.2 ∧ x.2.2.2.2 < (x.2.2.1.length : Int) then
        impl_WriteOk_k (rd (Ty.zero tWrite) x.2.2.1 x.2.2.2.2) (fun y3 =>
          bif (!y3) then
            k (.inr (.inl (x.1, false, x.2.2.1, x.2.2.2.1, x.2.2.2.2)))
          else
            bif (decide (x.2.2.2.2 > (0 : Int))) then
              if 0 ≤ (IntKind.wrap .i64 (x.2.2.2.2 - (1 : Int))) ∧ (IntKind.wrap .i64 (x.2.2.2.2 - (1 : Int))) < (x.1.length : Int) then
                bif (!(strLess ((rd (Ty.zero tWrite) x.1 (IntKind.wrap .i64 (x.2.2.2.2 - (1 : Int)))).1) ((rd (Ty.zero tWrite) x.2.2.1 x.2.2.2.2).1))) then
                  k (.inr (.inl (x.1, false, x.2.2.1, x.2.2.2.1, x.2.2.2.2)))
                else
                  k (.inl (x.1, x.2.1, x.2.2.1, x.2.2.2.1, (IntKind.wrap .i64 (x.2.2.2.2 + (1 : Int)))))
              else none
            else
              k (.inl (x.1, x.2.1, x.2.2.1, x.2.2.2.1, (IntKind.wrap .i64 (x.2.2.2.2 + (1 : Int))))))
      else none
    else
      k (.inr (.inr (x.1, x.2.1, x.2.2.1, x.2.2.2.1, x.2.2.2.2)))

theorem impl_WritesOk_bp0 (x : ((List dWrite) × Bool × (List dWrite) × Int × Int)) : Par (impl_WritesOk_b0 x) := by
  unfold impl_WritesOk_b0
  exact (par_bif (par_ite (c := 0 ≤ x.2.2.2.2 ∧ x.2.2.2.2 < (x.2.2.1.length : Int)) ((impl_WriteOk_p (rd (Ty.zero tWrite) x.2.2.1 x.2.2.2.2)).bind fun y3 => (par_bif (par_ret _) (par_bif (par_ite (c := 0 ≤ (IntKind.wrap .i64 (x.2.2.2.2 - (1 : Int))) ∧ (IntKind.wrap .i64 (x.2.2.2.2 - (1 : Int))) < (x.1.length : Int)) (par_bif (par_ret _) (par_ret _)) par_none) (par_ret _)))) par_none) (par_ret _))

def impl_WritesOk_d (a0 : (List dWrite)) (k : Bool → Option Res) : Option Res :=
  loopK impl_WritesOk_b0 Fuel (a0, false, a0, (a0.length : Int), (0 : Int)) (Sum.elim (fun z1 =>
    k z1.2.1) (fun z2 =>
    k (decide ((z2.1.length : Int) ≤ (8 : Int)))))

theorem impl_WritesOk_h : ∃ g : (List dWrite) → (Bool → Option Res) → Option Res, g = impl_WritesOk_d := ⟨_, rfl⟩
def impl_WritesOk_k : (List dWrite) → (Bool → Option Res) → Option Res := Classical.choose impl_WritesOk_h
theorem impl_WritesOk_e : impl_WritesOk_k = impl_WritesOk_d := Classical.choose_spec impl_WritesOk_h

theorem impl_WritesOk_p (a0 : (List dWrite)) : Par (impl_WritesOk_k a0) := by
  rw [impl_WritesOk_e]
  unfold impl_WritesOk_d
  exact ((par_loop impl_WritesOk_bp0 Fuel (a0, false, a0, (a0.length : Int), (0 : Int))).bind2 (fun z1 => (par_ret _)) (fun z2 => (par_ret _)))

def impl_TxnOk_j5000011 (x : (Bool × Int × Int × Int × Int × (List dRange) × (List dWrite) × Bool × ByteArray)) (k : (Bool × Int × Int × Int × Int × (List dRange) × (List dWrite) × Bool × ByteArray) → Option Res) : Option Res :=
    bif (x.2.2.1 == (2 : Int)) then
      impl_KeyOk_k x.2.2.2.2.2.2.2.2 (fun y15 =>
        bif y15 then
          k (true, x.2.1, x.2.2.1, x.2.2.2.1, x.2.2.2.2.1, x.2.2.2.2.2.1, x.2.2.2.2.2.2.1, x.2.2.2.2.2.2.2.1, x.2.2.2.2.2.2.2.2)
        else
          bif (x.2.2.1 != (2 : Int)) then
            k ((strEq x.2.2.2.2.2.2.2.2 (⟨#[]⟩ : ByteArray)), x.2.1, x.2.2.1, x.2.2.2.1, x.2.2.2.2.1, x.2.2.2.2.2.1, x.2.2.2.2.2.2.1, x.2.2.2.2.2.2.2.1, x.2.2.2.2.2.2.2.2)
          else
            k (false, x.2.1, x.2.2.1, x.2.2.2.1, x.2.2.2.2.1, x.2.2.2.2.2.1, x.2.2.2.2.2.2.1, x.2.2.2.2.2.2.2.1, x.2.2.2.2.2.2.2.2))
    else
      bif (x.2.2.1 != (2 : Int)) then
        k ((strEq x.2.2.2.2.2.2.2.2 (⟨#[]⟩ : ByteArray)), x.2.1, x.2.2.1, x.2.2.2.1, x.2.2.2.2.1, x.2.2.2.2.2.1, x.2.2.2.2.2.2.1, x.2.2.2.2.2.2.2.1, x.2.2.2.2.2.2.2.2)
      else
        k (false, x.2.1, x.2.2.1, x.2.2.2.1, x.2.2.2.2.1, x.2.2.2.2.2.1, x.2.2.2.2.2.2.1, x.2.2.2.2.2.2.2.1, x.2.2.2.2.2.2.2.2)

theorem impl_TxnOk_jp5000011 (x : (Bool × Int × Int × Int × Int × (List dRange) × (List dWrite) × Bool × ByteArray)) : Par (impl_TxnOk_j5000011 x) := by
  unfold impl_TxnOk_j5000011
  exact (par_bif ((impl_KeyOk_p x.2.2.2.2.2.2.2.2).bind fun y15 => (par_bif (par_ret _) (par_bif (par_ret _) (par_ret _)))) (par_bif (par_ret _) (par_ret _)))

def impl_TxnOk_j5000009 (x : (Bool × Int × Int × Int × Int × (List dRange) × (List dWrite) × Bool × ByteArray)) (k : (Bool × Int × Int × Int × Int × (List dRange) × (List dWrite) × Bool × ByteArray) → Option Res) : Option Res :=
    bif (x.2.2.1 == (3 : Int)) then
      impl_within_k x.2.2.2.2.1 (IntKind.wrap .i64 (x.2.2.2.1 + (1 : Int))) (9999 : Int) (fun y10 =>
        bif (!y10) then
          k (false, x.2.1, x.2.2.1, x.2.2.2.1, x.2.2.2.2.1, x.2.2.2.2.2.1, x.2.2.2.2.2.2.1, x.2.2.2.2.2.2.2.1, x.2.2.2.2.2.2.2.2)
        else
          bif (x.2.2.1 != (3 : Int)) then
            bif (x.2.2.2.2.1 != (0 : Int)) then
              k (false, x.2.1, x.2.2.1, x.2.2.2.1, x.2.2.2.2.1, x.2.2.2.2.2.1, x.2.2.2.2.2.2.1, x.2.2.2.2.2.2.2.1, x.2.2.2.2.2.2.2.2)
            else
              impl_TxnOk_j5000011 (x.1, x.2.1, x.2.2.1, x.2.2.2.1, x.2.2.2.2.1, x.2.2.2.2.2.1, x.2.2.2.2.2.2.1, x.2.2.2.2.2.2.2.1, x.2.2.2.2.2.2.2.2) (fun z11 =>
                k (z11.1, z11.2.1, z11.2.2.1, z11.2.2.2.1, z11.2.2.2.2.1, z11.2.2.2.2.2.1, z11.2.2.2.2.2.2.1, z11.2.2.2.2.2.2.2.1, z11.2.2.2.2.2.2.2.2))
          else
            impl_TxnOk_j5000011 (x.1, x.2.1, x.2.2.1, x.2.2.2.1, x.2.2.2.2.1, x.2.2.2.2.2.1, x.2.2.2.2.2.2.1, x.2.2.2.2.2.2.2.1, x.2.2.2.2.2.2.2.2) (fun z12 =>
              k (z12.1, z12.2.1, z12.2.2.1, z12.2.2.2.1, z12.2.2.2.2.1, z12.2.2.2.2.2.1, z12.2.2.2.2.2.2.1, z12.2.2.2.2.2.2.2.1, z12.2.2.2.2.2.2.2.2)))
    else
      bif (x.2.2.1 != (3 : Int)) then
        bif (x.2.2.2.2.1 != (0 : Int)) then
          k (false, x.2.1, x.2.2.1, x.2.2.2.1, x.2.2.2.2.1, x.2.2.2.2.2.1, x.2.2.2.2.2.2.1, x.2.2.2.2.2.2.2.1, x.2.2.2.2.2.2.2.2)
        else
          impl_TxnOk_j5000011 (x.1, x.2.1, x.2.2.1, x.2.2.2.1, x.2.2.2.2.1, x.2.2.2.2.2.1, x.2.2.2.2.2.2.1, x.2.2.2.2.2.2.2.1, x.2.2.2.2.2.2.2.2) (fun z13 =>
            k (z13.1, z13.2.1, z13.2.2.1, z13.2.2.2.1, z13.2.2.2.2.1, z13.2.2.2.2.2.1, z13.2.2.2.2.2.2.1, z13.2.2.2.2.2.2.2.1, z13.2.2.2.2.2.2.2.2))
      else
        impl_TxnOk_j5000011 (x.1, x.2.1, x.2.2.1, x.2.2.2.1, x.2.2.2.2.1, x.2.2.2.2.2.1, x.2.2.2.2.2.2.1, x.2.2.2.2.2.2.2.1, x.2.2.2.2.2.2.2.2) (fun z14 =>
          k (z14.1, z14.2.1, z14.2.2.1, z14.2.2.2.1, z14.2.2.2.2.1, z14.2.2.2.2.2.1, z14.2.2.2.2.2.2.1, z14.2.2.2.2.2.2.2.1, z14.2.2.2.2.2.2.2.2))

theorem impl_TxnOk_jp5000009 (x : (Bool × Int × Int × Int × Int × (List dRange) × (List dWrite) × Bool × ByteArray)) : Par (impl_TxnOk_j5000009 x) := by
  unfold impl_TxnOk_j5000009
  exact (par_bif ((impl_within_p x.2.2.2.2.1 (IntKind.wrap .i64 (x.2.2.2.1 + (1 : Int))) (9999 : Int)).bind fun y10 => (par_bif (par_ret _) (par_bif (par_bif (par_ret _) ((impl_TxnOk_jp5000011 (x.1, x.2.1, x.2.2.1, x.2.2.2.1, x.2.2.2.2.1, x.2.2.2.2.2.1, x.2.2.2.2.2.2.1, x.2.2.2.2.2.2.2.1, x.2.2.2.2.2.2.2.2)).bind fun z11 => (par_ret _))) ((impl_TxnOk_jp5000011 (x.1, x.2.1, x.2.2.1, x.2.2.2.1, x.2.2.2.2.1, x.2.2.2.2.2.1, x.2.2.2.2.2.2.1, x.2.2.2.2.2.2.2.1, x.2.2.2.2.2.2.2.2)).bind fun z12 => (par_ret _))))) (par_bif (par_bif (par_ret _) ((impl_TxnOk_jp5000011 (x.1, x.2.1, x.2.2.1, x.2.2.2.1, x.2.2.2.2.1, x.2.2.2.2.2.1, x.2.2.2.2.2.2.1, x.2.2.2.2.2.2.2.1, x.2.2.2.2.2.2.2.2)).bind fun z13 => (par_ret _))) ((impl_TxnOk_jp5000011 (x.1, x.2.1, x.2.2.1, x.2.2.2.1, x.2.2.2.2.1, x.2.2.2.2.2.1, x.2.2.2.2.2.2.1, x.2.2.2.2.2.2.2.1, x.2.2.2.2.2.2.2.2)).bind fun z14 => (par_ret _))))

def impl_TxnOk_b0 (x : (Bool × (List dRange) × Int × Int × Int × Int × Int × Int × (List dRange) × (List dWrite) × Bool × ByteArray)) (k : (Bool × (List dRange) × Int × Int × Int × Int × Int × Int × (List dRange) × (List dWrite) × Bool × ByteArray) ⊕ ((Bool × (List dRange) × Int × Int × Int × Int × Int × Int × (List dRange) × (List dWrite) × Bool × ByteArray) ⊕ (Bool × (List dRange) × Int × Int × Int × Int × Int × Int × (List dRange) × (List dWrite) × Bool × ByteArray)) → Option Res) : Option Res :=
    bif (decide (x.2.2.2.1 < x.2.2.1)) then
      if 0 ≤ x.2.2.2.1 ∧ x.2.2.2.1 < (x.2.1.length : Int) then
        impl_RangeOk_k (rd (Ty.zero tRange) x.2.1 x.2.2.2.1) (fun y9 =>
          bif (!y9) then
            k (.inr (.inl (false, x.2.1, x.2.2.1, x.2.2.2.1, x.2.2.2.2.1, x.2.2.2.2.2.1, x.2.2.2.2.2.2.1, x.2.2.2.2.2.2.2.1, x.2.2.2.2.2.2.2.2.1, x.2.2.2.2.2.2.2.2.2.1, x.2.2.2.2.2.2.2.2.2.2.1, x.2.2.2.2.2.2.2.2.2.2.2)))
          else
            k (.inl (x.1, x.2.1, x.2.2.1, (IntKind.wrap .i64 (x.2.2.2.1 + (1 : Int))), x.2.2.2.2.1, x.2.2.2.2.2.1, x.2.2.2.2.2.2.1, x.2.2.2.2.2.2.2.1, x.2.2.2.2.2.2.2.2.1, x.2.2.2.2.2.2.2.2.2.1, x.2.2.2.2.2.2.2.2.2.2.1, x.2.2.2.2.2.2.2.2.2.2.2)))
      else none
    else
      k (.inr (.inr (x.1, x.2.1, x.2.2.1, x.2.2.2.1, x.2.2.2.2.1, x.2.2.2.2.2.1, x.2.2.2.2.2.2.1, x.2.2.2.2.2.2.2.1, x.2.2.2.2.2.2.2.2.1, x.2.2.2.2.2.2.2.2.2.1, x.2.2.2.2.2.2.2.2.2.2.1, x.2.2.2.2.2.2.2.2.2.2.2)))

theorem impl_TxnOk_bp0 (x : (Bool × (List dRange) × Int × Int × Int × Int × Int × Int × (List dRange) × (List dWrite) × Bool × ByteArray)) : Par (impl_TxnOk_b0 x) := by
  unfold impl_TxnOk_b0
  exact (par_bif (par_ite (c := 0 ≤ x.2.2.2.1 ∧ x.2.2.2.1 < (x.2.1.length : Int)) ((impl_RangeOk_p (rd (Ty.zero tRange) x.2.1 x.2.2.2.1)).bind fun y9 => (par_bif (par_ret _) (par_ret _))) par_none) (par_ret _))

def impl_TxnOk_d (a0 : dTxn) (k : Bool → Option Res) : Option Res :=
  loopK impl_TxnOk_b0 Fuel (false, a0.2.2.2.2.1, (a0.2.2.2.2.1.length : Int), (0 : Int), a0.1, a0.2.1, a0.2.2.1, a0.2.2.2.1, a0.2.2.2.2.1, a0.2.2.2.2.2.1, a0.2.2.2.2.2.2.1, a0.2.2.2.2.2.2.2) (Sum.elim (fun z1 =>
    k z1.1) (fun z2 =>
    impl_within_k z2.2.2.2.2.1 (1 : Int) (9999 : Int) (fun y3 =>
      bif (!y3) then
        k false
      else
        impl_within_k z2.2.2.2.2.2.1 (1 : Int) (3 : Int) (fun y4 =>
          bif (!y4) then
            k false
          else
            impl_within_k z2.2.2.2.2.2.2.1 (0 : Int) (9999 : Int) (fun y5 =>
              bif (!y5) then
                k false
              else
                bif (decide ((z2.2.2.2.2.2.2.2.2.1.length : Int) > (8 : Int))) then
                  k false
                else
                  impl_WritesOk_k z2.2.2.2.2.2.2.2.2.2.1 (fun y6 =>
                    bif (!y6) then
                      k false
                    else
                      bif z2.2.2.2.2.2.2.2.2.2.2.1 then
                        bif (z2.2.2.2.2.2.1 == (1 : Int)) then
                          k false
                        else
                          impl_TxnOk_j5000009 (z2.1, z2.2.2.2.2.1, z2.2.2.2.2.2.1, z2.2.2.2.2.2.2.1, z2.2.2.2.2.2.2.2.1, z2.2.2.2.2.2.2.2.2.1, z2.2.2.2.2.2.2.2.2.2.1, z2.2.2.2.2.2.2.2.2.2.2.1, z2.2.2.2.2.2.2.2.2.2.2.2) (fun z7 =>
                            k z7.1)
                      else
                        impl_TxnOk_j5000009 (z2.1, z2.2.2.2.2.1, z2.2.2.2.2.2.1, z2.2.2.2.2.2.2.1, z2.2.2.2.2.2.2.2.1, z2.2.2.2.2.2.2.2.2.1, z2.2.2.2.2.2.2.2.2.2.1, z2.2.2.2.2.2.2.2.2.2.2.1, z2.2.2.2.2.2.2.2.2.2.2.2) (fun z8 =>
                          k z8.1)))))))

theorem impl_TxnOk_h : ∃ g : dTxn → (Bool → Option Res) → Option Res, g = impl_TxnOk_d := ⟨_, rfl⟩
def impl_TxnOk_k : dTxn → (Bool → Option Res) → Option Res := Classical.choose impl_TxnOk_h
theorem impl_TxnOk_e : impl_TxnOk_k = impl_TxnOk_d := Classical.choose_spec impl_TxnOk_h

theorem impl_TxnOk_p (a0 : dTxn) : Par (impl_TxnOk_k a0) := by
  rw [impl_TxnOk_e]
  unfold impl_TxnOk_d
  exact ((par_loop impl_TxnOk_bp0 Fuel (false, a0.2.2.2.2.1, (a0.2.2.2.2.1.length : Int), (0 : Int), a0.1, a0.2.1, a0.2.2.1, a0.2.2.2.1, a0.2.2.2.2.1, a0.2.2.2.2.2.1, a0.2.2.2.2.2.2.1, a0.2.2.2.2.2.2.2)).bind2 (fun z1 => (par_ret _)) (fun z2 => ((impl_within_p z2.2.2.2.2.1 (1 : Int) (9999 : Int)).bind fun y3 => (par_bif (par_ret _) ((impl_within_p z2.2.2.2.2.2.1 (1 : Int) (3 : Int)).bind fun y4 => (par_bif (par_ret _) ((impl_within_p z2.2.2.2.2.2.2.1 (0 : Int) (9999 : Int)).bind fun y5 => (par_bif (par_ret _) (par_bif (par_ret _) ((impl_WritesOk_p z2.2.2.2.2.2.2.2.2.2.1).bind fun y6 => (par_bif (par_ret _) (par_bif (par_bif (par_ret _) ((impl_TxnOk_jp5000009 (z2.1, z2.2.2.2.2.1, z2.2.2.2.2.2.1, z2.2.2.2.2.2.2.1, z2.2.2.2.2.2.2.2.1, z2.2.2.2.2.2.2.2.2.1, z2.2.2.2.2.2.2.2.2.2.1, z2.2.2.2.2.2.2.2.2.2.2.1, z2.2.2.2.2.2.2.2.2.2.2.2)).bind fun z7 => (par_ret _))) ((impl_TxnOk_jp5000009 (z2.1, z2.2.2.2.2.1, z2.2.2.2.2.2.1, z2.2.2.2.2.2.2.1, z2.2.2.2.2.2.2.2.1, z2.2.2.2.2.2.2.2.2.1, z2.2.2.2.2.2.2.2.2.2.1, z2.2.2.2.2.2.2.2.2.2.2.1, z2.2.2.2.2.2.2.2.2.2.2.2)).bind fun z8 => (par_ret _))))))))))))))

def slices_Index_Range_b0 (x : ((List dRange) × Int × Int × Int × ByteArray × ByteArray)) (k : ((List dRange) × Int × Int × Int × ByteArray × ByteArray) ⊕ (((List dRange) × Int × Int × Int × ByteArray × ByteArray) ⊕ ((List dRange) × Int × Int × Int × ByteArray × ByteArray)) → Option Res) : Option Res :=
    bif (decide (x.2.2.2.1 < x.2.2.1)) then
      if 0 ≤ x.2.2.2.1 ∧ x.2.2.2.1 < (x.1.length : Int) then
        bif (Ty.eqB tRange x.2.2.2.2 (rd (Ty.zero tRange) x.1 x.2.2.2.1)) then
          k (.inr (.inl (x.1, x.2.2.2.1, x.2.2.1, x.2.2.2.1, x.2.2.2.2.1, x.2.2.2.2.2)))
        else
          k (.inl (x.1, x.2.1, x.2.2.1, (IntKind.wrap .i64 (x.2.2.2.1 + (1 : Int))), x.2.2.2.2.1, x.2.2.2.2.2))
      else none
    else
      k (.inr (.inr (x.1, x.2.1, x.2.2.1, x.2.2.2.1, x.2.2.2.2.1, x.2.2.2.2.2)))

theorem slices_Index_Range_bp0 (x : ((List dRange) × Int × Int × Int × ByteArray × ByteArray)) : Par (slices_Index_Range_b0 x) := by
  unfold slices_Index_Range_b0
  exact (par_bif (par_ite (c := 0 ≤ x.2.2.2.1 ∧ x.2.2.2.1 < (x.1.length : Int)) (par_bif (par_ret _) (par_ret _)) par_none) (par_ret _))

def slices_Index_Range_d (a0 : (List dRange)) (a1 : dRange) (k : Int → Option Res) : Option Res :=
  loopK slices_Index_Range_b0 Fuel (a0, (0 : Int), (a0.length : Int), (0 : Int), a1.1, a1.2) (Sum.elim (fun z1 =>
    k z1.2.1) (fun _ =>
    k (-1 : Int)))

theorem slices_Index_Range_h : ∃ g : (List dRange) → dRange → (Int → Option Res) → Option Res, g = slices_Index_Range_d := ⟨_, rfl⟩
def slices_Index_Range_k : (List dRange) → dRange → (Int → Option Res) → Option Res := Classical.choose slices_Index_Range_h
theorem slices_Index_Range_e : slices_Index_Range_k = slices_Index_Range_d := Classical.choose_spec slices_Index_Range_h

theorem slices_Index_Range_p (a0 : (List dRange)) (a1 : dRange) : Par (slices_Index_Range_k a0 a1) := by
  rw [slices_Index_Range_e]
  unfold slices_Index_Range_d
  exact ((par_loop slices_Index_Range_bp0 Fuel (a0, (0 : Int), (a0.length : Int), (0 : Int), a1.1, a1.2)).bind2 (fun z1 => (par_ret _)) (fun z2 => (par_ret _)))

def slices_Contains_Range_d (a0 : (List dRange)) (a1 : dRange) (k : Bool → Option Res) : Option Res :=
  slices_Index_Range_k a0 a1 (fun y1 =>
    k (decide (y1 ≥ (0 : Int))))

theorem slices_Contains_Range_h : ∃ g : (List dRange) → dRange → (Bool → Option Res) → Option Res, g = slices_Contains_Range_d := ⟨_, rfl⟩
def slices_Contains_Range_k : (List dRange) → dRange → (Bool → Option Res) → Option Res := Classical.choose slices_Contains_Range_h
theorem slices_Contains_Range_e : slices_Contains_Range_k = slices_Contains_Range_d := Classical.choose_spec slices_Contains_Range_h

theorem slices_Contains_Range_p (a0 : (List dRange)) (a1 : dRange) : Par (slices_Contains_Range_k a0 a1) := by
  rw [slices_Contains_Range_e]
  unfold slices_Contains_Range_d
  exact ((slices_Index_Range_p a0 a1).bind fun y1 => (par_ret _))

def impl_ReadRange_j5000004 (x : (Bool × Int × Int × Int × Int × (List dRange) × (List dWrite) × Bool × ByteArray × ByteArray × ByteArray × Int × Int × Int × Int × Bool × ByteArray × Int × Int × Int × Int × Bool × ByteArray × (List dRange) × (List dWrite) × (List dRange) × (List dWrite))) (k : (Bool × Int × Int × Int × Int × (List dRange) × (List dWrite) × Bool × ByteArray × ByteArray × ByteArray × Int × Int × Int × Int × Bool × ByteArray × Int × Int × Int × Int × Bool × ByteArray × (List dRange) × (List dWrite)) → Option Res) : Option Res :=
    slices_Contains_Range_k x.2.2.2.2.2.1 (x.2.2.2.2.2.2.2.2.2.1, x.2.2.2.2.2.2.2.2.2.2.1) (fun y5 =>
      bif y5 then
        k (true, x.2.1, x.2.2.1, x.2.2.2.1, x.2.2.2.2.1, x.2.2.2.2.2.1, x.2.2.2.2.2.2.1, x.2.2.2.2.2.2.2.1, x.2.2.2.2.2.2.2.2.1, x.2.2.2.2.2.2.2.2.2.1, x.2.2.2.2.2.2.2.2.2.2.1, x.2.2.2.2.2.2.2.2.2.2.2.2.2.2.2.2.2.1, x.2.2.2.2.2.2.2.2.2.2.2.2.2.2.2.2.2.2.1, x.2.2.2.2.2.2.2.2.2.2.2.2.2.2.2.2.2.2.2.1, x.2.2.2.2.2.2.2.2.2.2.2.2.2.2.2.2.2.2.2.2.1, x.2.2.2.2.2.2.2.2.2.2.2.2.2.2.2.2.2.2.2.2.2.1, x.2.2.2.2.2.2.2.2.2.2.2.2.2.2.2.2.2.2.2.2.2.2.1, x.2.2.2.2.2.2.2.2.2.2.2.2.2.2.2.2.2.1, x.2.2.2.2.2.2.2.2.2.2.2.2.2.2.2.2.2.2.1, x.2.2.2.2.2.2.2.2.2.2.2.2.2.2.2.2.2.2.2.1, x.2.2.2.2.2.2.2.2.2.2.2.2.2.2.2.2.2.2.2.2.1, x.2.2.2.2.2.2.2.2.2.2.2.2.2.2.2.2.2.2.2.2.2.1, x.2.2.2.2.2.2.2.2.2.2.2.2.2.2.2.2.2.2.2.2.2.2.1, x.2.2.2.2.2.2.2.2.2.2.2.2.2.2.2.2.2.2.2.2.2.2.2.2.2.1, x.2.2.2.2.2.2.2.2.2.2.2.2.2.2.2.2.2.2.2.2.2.2.2.2.2.2)
      else
        bif ((x.2.2.2.2.2.1.length : Int) == (8 : Int)) then
          k (false, x.2.1, x.2.2.1, x.2.2.2.1, x.2.2.2.2.1, x.2.2.2.2.2.1, x.2.2.2.2.2.2.1, x.2.2.2.2.2.2.2.1, x.2.2.2.2.2.2.2.2.1, x.2.2.2.2.2.2.2.2.2.1, x.2.2.2.2.2.2.2.2.2.2.1, x.2.2.2.2.2.2.2.2.2.2.2.2.2.2.2.2.2.1, x.2.2.2.2.2.2.2.2.2.2.2.2.2.2.2.2.2.2.1, x.2.2.2.2.2.2.2.2.2.2.2.2.2.2.2.2.2.2.2.1, x.2.2.2.2.2.2.2.2.2.2.2.2.2.2.2.2.2.2.2.2.1, x.2.2.2.2.2.2.2.2.2.2.2.2.2.2.2.2.2.2.2.2.2.1, x.2.2.2.2.2.2.2.2.2.2.2.2.2.2.2.2.2.2.2.2.2.2.1, x.2.2.2.2.2.2.2.2.2.2.2.2.2.2.2.2.2.1, x.2.2.2.2.2.2.2.2.2.2.2.2.2.2.2.2.2.2.1, x.2.2.2.2.2.2.2.2.2.2.2.2.2.2.2.2.2.2.2.1, x.2.2.2.2.2.2.2.2.2.2.2.2.2.2.2.2.2.2.2.2.1, x.2.2.2.2.2.2.2.2.2.2.2.2.2.2.2.2.2.2.2.2.2.1, x.2.2.2.2.2.2.2.2.2.2.2.2.2.2.2.2.2.2.2.2.2.2.1, x.2.2.2.2.2.2.2.2.2.2.2.2.2.2.2.2.2.2.2.2.2.2.2.2.2.1, x.2.2.2.2.2.2.2.2.2.2.2.2.2.2.2.2.2.2.2.2.2.2.2.2.2.2)
        else
          if x.2.2.2.2.2.2.2.2.2.2.2.2.2.2.2.2.2.2.2.2.2.2.2.2.2.1.length + [(x.2.2.2.2.2.2.2.2.2.1, x.2.2.2.2.2.2.2.2.2.2.1)].length ≤ VE.maxLen then
            k (true, x.2.1, x.2.2.1, x.2.2.2.1, x.2.2.2.2.1, x.2.2.2.2.2.1, x.2.2.2.2.2.2.1, x.2.2.2.2.2.2.2.1, x.2.2.2.2.2.2.2.2.1, x.2.2.2.2.2.2.2.2.2.1, x.2.2.2.2.2.2.2.2.2.2.1, x.2.2.2.2.2.2.2.2.2.2.2.2.2.2.2.2.2.1, x.2.2.2.2.2.2.2.2.2.2.2.2.2.2.2.2.2.2.1, x.2.2.2.2.2.2.2.2.2.2.2.2.2.2.2.2.2.2.2.1, x.2.2.2.2.2.2.2.2.2.2.2.2.2.2.2.2.2.2.2.2.1, x.2.2.2.2.2.2.2.2.2.2.2.2.2.2.2.2.2.2.2.2.2.1, x.2.2.2.2.2.2.2.2.2.2.2.2.2.2.2.2.2.2.2.2.2.2.1, x.2.2.2.2.2.2.2.2.2.2.2.2.2.2.2.2.2.1, x.2.2.2.2.2.2.2.2.2.2.2.2.2.2.2.2.2.2.1, x.2.2.2.2.2.2.2.2.2.2.2.2.2.2.2.2.2.2.2.1, x.2.2.2.2.2.2.2.2.2.2.2.2.2.2.2.2.2.2.2.2.1, x.2.2.2.2.2.2.2.2.2.2.2.2.2.2.2.2.2.2.2.2.2.1, x.2.2.2.2.2.2.2.2.2.2.2.2.2.2.2.2.2.2.2.2.2.2.1, (x.2.2.2.2.2.2.2.2.2.2.2.2.2.2.2.2.2.2.2.2.2.2.2.2.2.1 ++ [(x.2.2.2.2.2.2.2.2.2.1, x.2.2.2.2.2.2.2.2.2.2.1)]), x.2.2.2.2.2.2.2.2.2.2.2.2.2.2.2.2.2.2.2.2.2.2.2.2.2.2)
          else none)

theorem impl_ReadRange_jp5000004 (x : (Bool × Int × Int × Int × Int × (List dRange) × (List dWrite) × Bool × ByteArray × ByteArray × ByteArray × Int × Int × Int × Int × Bool × ByteArray × Int × Int × Int × Int × Bool × ByteArray × (List dRange) × (List dWrite) × (List dRange) × (List dWrite))) : Par (impl_ReadRange_j5000004 x) := by
  unfold impl_ReadRange_j5000004
  exact ((slices_Contains_Range_p x.2.2.2.2.2.1 (x.2.2.2.2.2.2.2.2.2.1, x.2.2.2.2.2.2.2.2.2.2.1)).bind fun y5 => (par_bif (par_ret _) (par_bif (par_ret _) (par_ite (c := x.2.2.2.2.2.2.2.2.2.2.2.2.2.2.2.2.2.2.2.2.2.2.2.2.2.1.length + [(x.2.2.2.2.2.2.2.2.2.1, x.2.2.2.2.2.2.2.2.2.2.1)].length ≤ VE.maxLen) (par_ret _) par_none))))

def impl_ReadRange_d (a0 : dTxn) (a1 : dRange) (k : (Int × Int × Int × Int × Bool × ByteArray × Bool × (List dRange) × (List dWrite)) → Option Res) : Option Res :=
  impl_copyTxn_k a0 (fun y1 =>
    impl_TxnOk_k a0 (fun y2 =>
      bif (!y2) then
        k (y1.1, y1.2.1, y1.2.2.1, y1.2.2.2.1, y1.2.2.2.2.1, y1.2.2.2.2.2.1, false, y1.2.2.2.2.2.2.1, y1.2.2.2.2.2.2.2)
      else
        bif (a0.2.1 != (1 : Int)) then
          k (y1.1, y1.2.1, y1.2.2.1, y1.2.2.2.1, y1.2.2.2.2.1, y1.2.2.2.2.2.1, false, y1.2.2.2.2.2.2.1, y1.2.2.2.2.2.2.2)
        else
          impl_RangeOk_k a1 (fun y3 =>
            bif (!y3) then
              k (y1.1, y1.2.1, y1.2.2.1, y1.2.2.2.1, y1.2.2.2.2.1, y1.2.2.2.2.2.1, false, y1.2.2.2.2.2.2.1, y1.2.2.2.2.2.2.2)
            else
              impl_ReadRange_j5000004 (false, a0.1, a0.2.1, a0.2.2.1, a0.2.2.2.1, a0.2.2.2.2.1, a0.2.2.2.2.2.1, a0.2.2.2.2.2.2.1, a0.2.2.2.2.2.2.2, a1.1, a1.2, (0 : Int), (0 : Int), (0 : Int), (0 : Int), false, (⟨#[]⟩ : ByteArray), y1.1, y1.2.1, y1.2.2.1, y1.2.2.2.1, y1.2.2.2.2.1, y1.2.2.2.2.2.1, ([] : List dRange), ([] : List dWrite), y1.2.2.2.2.2.2.1, y1.2.2.2.2.2.2.2) (fun z4 =>
                k (z4.2.2.2.2.2.2.2.2.2.2.2.1, z4.2.2.2.2.2.2.2.2.2.2.2.2.1, z4.2.2.2.2.2.2.2.2.2.2.2.2.2.1, z4.2.2.2.2.2.2.2.2.2.2.2.2.2.2.1, z4.2.2.2.2.2.2.2.2.2.2.2.2.2.2.2.1, z4.2.2.2.2.2.2.2.2.2.2.2.2.2.2.2.2.1, z4.1, z4.2.2.2.2.2.2.2.2.2.2.2.2.2.2.2.2.2.2.2.2.2.2.2.1, z4.2.2.2.2.2.2.2.2.2.2.2.2.2.2.2.2.2.2.2.2.2.2.2.2)))))

theorem impl_ReadRange_h : ∃ g : dTxn → dRange → ((Int × Int × Int × Int × Bool × ByteArray × Bool × (List dRange) × (List dWrite)) → Option Res) → Option Res, g = impl_ReadRange_d := ⟨_, rfl⟩
def impl_ReadRange_k : dTxn → dRange → ((Int × Int × Int × Int × Bool × ByteArray × Bool × (List dRange) × (List dWrite)) → Option Res) → Option Res := Classical.choose impl_ReadRange_h
theorem impl_ReadRange_e : impl_ReadRange_k = impl_ReadRange_d := Classical.choose_spec impl_ReadRange_h

theorem impl_ReadRange_p (a0 : dTxn) (a1 : dRange) : Par (impl_ReadRange_k a0 a1) := by
  rw [impl_ReadRange_e]
  unfold impl_ReadRange_d
  exact ((impl_copyTxn_p a0).bind fun y1 => ((impl_TxnOk_p a0).bind fun y2 => (par_bif (par_ret _) (par_bif (par_ret _) ((impl_RangeOk_p a1).bind fun y3 => (par_bif (par_ret _) ((impl_ReadRange_jp5000004 (false, a0.1, a0.2.1, a0.2.2.1, a0.2.2.2.1, a0.2.2.2.2.1, a0.2.2.2.2.2.1, a0.2.2.2.2.2.2.1, a0.2.2.2.2.2.2.2, a1.1, a1.2, (0 : Int), (0 : Int), (0 : Int), (0 : Int), false, (⟨#[]⟩ : ByteArray), y1.1, y1.2.1, y1.2.2.1, y1.2.2.2.1, y1.2.2.2.2.1, y1.2.2.2.2.2.1, ([] : List dRange), ([] : List dWrite), y1.2.2.2.2.2.2.1, y1.2.2.2.2.2.2.2)).bind fun z4 => (par_ret _))))))))

def laws_eqRange_d (a0 : dRange) (a1 : dRange) (k : Bool → Option Res) : Option Res :=
  bif (!(strEq a0.1 a1.1)) then
    k false
  else
    bif (!(strEq a0.2 a1.2)) then
      k false
    else
      k true

theorem laws_eqRange_h : ∃ g : dRange → dRange → (Bool → Option Res) → Option Res, g = laws_eqRange_d := ⟨_, rfl⟩
def laws_eqRange_k : dRange → dRange → (Bool → Option Res) → Option Res := Classical.choose laws_eqRange_h
theorem laws_eqRange_e : laws_eqRange_k = laws_eqRange_d := Classical.choose_spec laws_eqRange_h

theorem laws_eqRange_p (a0 : dRange) (a1 : dRange) : Par (laws_eqRange_k a0 a1) := by
  rw [laws_eqRange_e]
  unfold laws_eqRange_d
  exact (par_bif (par_ret _) (par_bif (par_ret _) (par_ret _)))

def laws_eqRangeS_b0 (x : ((List dRange) × (List dRange) × Bool × Int)) (k : ((List dRange) × (List dRange) × Bool × Int) ⊕ (((List dRange) × (List dRange) × Bool × Int) ⊕ ((List dRange) × (List dRange) × Bool × Int)) → Option Res) : Option Res :=
    bif (decide (x.2.2.2 < (x.1.length : Int))) then
      if 0 ≤ x.2.2.2 ∧ x.2.2.2 < (x.1.length : Int) then
        if 0 ≤ x.2.2.2 ∧ x.2.2.2 < (x.2.1.length : Int) then
          laws_eqRange_k (rd (Ty.zero tRange) x.1 x.2.2.2) (rd (Ty.zero tRange) x.2.1 x.2.2.2) (fun y3 =>
            bif (!y3) then
              k (.inr (.inl (x.1, x.2.1, false, x.2.2.2)))
            else
              k (.inl (x.1, x.2.1, x.2.2.1, (IntKind.wrap .i64 (x.2.2.2 + (1 : Int))))))
        else none
      else none
    else
      k (.inr (.inr (x.1, x.2.1, x.2.2.1, x.2.2.2)))

theorem laws_eqRangeS_bp0 (x : ((List dRange) × (List dRange) × Bool × Int)) : Par (laws_eqRangeS_b0 x) := by
  unfold laws_eqRangeS_b0
  exact (par_bif (par_ite (c := 0 ≤ x.2.2.2 ∧ x.2.2.2 < (x.1.length : Int)) (par_ite (c := 0 ≤ x.2.2.2 ∧ x.2.2.2 < (x.2.1.length : Int)) ((laws_eqRange_p (rd (Ty.zero tRange) x.1 x.2.2.2) (rd (Ty.zero tRange) x.2.1 x.2.2.2)).bind fun y3 => (par_bif (par_ret _) (par_ret _))) par_none) par_none) (par_ret _))

def laws_eqRangeS_d (a0 : (List dRange)) (a1 : (List dRange)) (k : Bool → Option Res) : Option Res :=
  bif ((a0.length : Int) != (a1.length : Int)) then
    k false
  else
    loopK laws_eqRangeS_b0 Fuel (a0, a1, false, (0 : Int)) (Sum.elim (fun z1 =>
      k z1.2.2.1) (fun _ =>
      k true))

theorem laws_eqRangeS_h : ∃ g : (List dRange) → (List dRange) → (Bool → Option Res) → Option Res, g = laws_eqRangeS_d := ⟨_, rfl⟩
def laws_eqRangeS_k : (List dRange) → (List dRange) → (Bool → Option Res) → Option Res := Classical.choose laws_eqRangeS_h
theorem laws_eqRangeS_e : laws_eqRangeS_k = laws_eqRangeS_d := Classical.choose_spec laws_eqRangeS_h

theorem laws_eqRangeS_p (a0 : (List dRange)) (a1 : (List dRange)) : Par (laws_eqRangeS_k a0 a1) := by
  rw [laws_eqRangeS_e]
  unfold laws_eqRangeS_d
  exact (par_bif (par_ret _) ((par_loop laws_eqRangeS_bp0 Fuel (a0, a1, false, (0 : Int))).bind2 (fun z1 => (par_ret _)) (fun z2 => (par_ret _))))

def laws_eqWrite_d (a0 : dWrite) (a1 : dWrite) (k : Bool → Option Res) : Option Res :=
  bif (!(strEq a0.1 a1.1)) then
    k false
  else
    bif (!(strEq a0.2.1 a1.2.1)) then
      k false
    else
      bif (!(a0.2.2 == a1.2.2)) then
        k false
      else
        k true

theorem laws_eqWrite_h : ∃ g : dWrite → dWrite → (Bool → Option Res) → Option Res, g = laws_eqWrite_d := ⟨_, rfl⟩
def laws_eqWrite_k : dWrite → dWrite → (Bool → Option Res) → Option Res := Classical.choose laws_eqWrite_h
theorem laws_eqWrite_e : laws_eqWrite_k = laws_eqWrite_d := Classical.choose_spec laws_eqWrite_h

theorem laws_eqWrite_p (a0 : dWrite) (a1 : dWrite) : Par (laws_eqWrite_k a0 a1) := by
  rw [laws_eqWrite_e]
  unfold laws_eqWrite_d
  exact (par_bif (par_ret _) (par_bif (par_ret _) (par_bif (par_ret _) (par_ret _))))

def laws_eqWriteS_b0 (x : ((List dWrite) × (List dWrite) × Bool × Int)) (k : ((List dWrite) × (List dWrite) × Bool × Int) ⊕ (((List dWrite) × (List dWrite) × Bool × Int) ⊕ ((List dWrite) × (List dWrite) × Bool × Int)) → Option Res) : Option Res :=
    bif (decide (x.2.2.2 < (x.1.length : Int))) then
      if 0 ≤ x.2.2.2 ∧ x.2.2.2 < (x.1.length : Int) then
        if 0 ≤ x.2.2.2 ∧ x.2.2.2 < (x.2.1.length : Int) then
          laws_eqWrite_k (rd (Ty.zero tWrite) x.1 x.2.2.2) (rd (Ty.zero tWrite) x.2.1 x.2.2.2) (fun y3 =>
            bif (!y3) then
              k (.inr (.inl (x.1, x.2.1, false, x.2.2.2)))
            else
              k (.inl (x.1, x.2.1, x.2.2.1, (IntKind.wrap .i64 (x.2.2.2 + (1 : Int))))))
        else none
      else none
    else
      k (.inr (.inr (x.1, x.2.1, x.2.2.1, x.2.2.2)))

theorem laws_eqWriteS_bp0 (x : ((List dWrite) × (List dWrite) × Bool × Int)) : Par (laws_eqWriteS_b0 x) := by
  unfold laws_eqWriteS_b0
  exact (par_bif (par_ite (c := 0 ≤ x.2.2.2 ∧ x.2.2.2 < (x.1.length : Int)) (par_ite (c := 0 ≤ x.2.2.2 ∧ x.2.2.2 < (x.2.1.length : Int)) ((laws_eqWrite_p (rd (Ty.zero tWrite) x.1 x.2.2.2) (rd (Ty.zero tWrite) x.2.1 x.2.2.2)).bind fun y3 => (par_bif (par_ret _) (par_ret _))) par_none) par_none) (par_ret _))

def laws_eqWriteS_d (a0 : (List dWrite)) (a1 : (List dWrite)) (k : Bool → Option Res) : Option Res :=
  bif ((a0.length : Int) != (a1.length : Int)) then
    k false
  else
    loopK laws_eqWriteS_b0 Fuel (a0, a1, false, (0 : Int)) (Sum.elim (fun z1 =>
      k z1.2.2.1) (fun _ =>
      k true))

theorem laws_eqWriteS_h : ∃ g : (List dWrite) → (List dWrite) → (Bool → Option Res) → Option Res, g = laws_eqWriteS_d := ⟨_, rfl⟩
def laws_eqWriteS_k : (List dWrite) → (List dWrite) → (Bool → Option Res) → Option Res := Classical.choose laws_eqWriteS_h
theorem laws_eqWriteS_e : laws_eqWriteS_k = laws_eqWriteS_d := Classical.choose_spec laws_eqWriteS_h

theorem laws_eqWriteS_p (a0 : (List dWrite)) (a1 : (List dWrite)) : Par (laws_eqWriteS_k a0 a1) := by
  rw [laws_eqWriteS_e]
  unfold laws_eqWriteS_d
  exact (par_bif (par_ret _) ((par_loop laws_eqWriteS_bp0 Fuel (a0, a1, false, (0 : Int))).bind2 (fun z1 => (par_ret _)) (fun z2 => (par_ret _))))

def laws_eqTxn_d (a0 : dTxn) (a1 : dTxn) (k : Bool → Option Res) : Option Res :=
  bif (a0.1 != a1.1) then
    k false
  else
    bif (a0.2.1 != a1.2.1) then
      k false
    else
      bif (a0.2.2.1 != a1.2.2.1) then
        k false
      else
        bif (a0.2.2.2.1 != a1.2.2.2.1) then
          k false
        else
          laws_eqRangeS_k a0.2.2.2.2.1 a1.2.2.2.2.1 (fun y1 =>
            bif (!y1) then
              k false
            else
              laws_eqWriteS_k a0.2.2.2.2.2.1 a1.2.2.2.2.2.1 (fun y2 =>
                bif (!y2) then
                  k false
                else
                  bif (!(a0.2.2.2.2.2.2.1 == a1.2.2.2.2.2.2.1)) then
                    k false
                  else
                    bif (!(strEq a0.2.2.2.2.2.2.2 a1.2.2.2.2.2.2.2)) then
                      k false
                    else
                      k true))

theorem laws_eqTxn_h : ∃ g : dTxn → dTxn → (Bool → Option Res) → Option Res, g = laws_eqTxn_d := ⟨_, rfl⟩
def laws_eqTxn_k : dTxn → dTxn → (Bool → Option Res) → Option Res := Classical.choose laws_eqTxn_h
theorem laws_eqTxn_e : laws_eqTxn_k = laws_eqTxn_d := Classical.choose_spec laws_eqTxn_h

theorem laws_eqTxn_p (a0 : dTxn) (a1 : dTxn) : Par (laws_eqTxn_k a0 a1) := by
  rw [laws_eqTxn_e]
  unfold laws_eqTxn_d
  exact (par_bif (par_ret _) (par_bif (par_ret _) (par_bif (par_ret _) (par_bif (par_ret _) ((laws_eqRangeS_p a0.2.2.2.2.1 a1.2.2.2.2.1).bind fun y1 => (par_bif (par_ret _) ((laws_eqWriteS_p a0.2.2.2.2.2.1 a1.2.2.2.2.2.1).bind fun y2 => (par_bif (par_ret _) (par_bif (par_ret _) (par_bif (par_ret _) (par_ret _)))))))))))

def laws_markText_b0 (x : (Int × ByteArray)) (k : (Int × ByteArray) ⊕ (Int × ByteArray) → Option Res) : Option Res :=
    bif (decide (x.1 > (0 : Int))) then
      if (bytesOf [(IntKind.wrap .u8 (IntKind.wrap .i64 ((48 : Int) + (x.1.tmod (10 : Int)))))]).size + x.2.size ≤ 1099511627776 then
        k (.inl ((IntKind.wrap .i64 (x.1.tdiv (10 : Int))), ((bytesOf [(IntKind.wrap .u8 (IntKind.wrap .i64 ((48 : Int) + (x.1.tmod (10 : Int)))))]) ++ x.2)))
      else none
    else
      k (.inr (x.1, x.2))

theorem laws_markText_bp0 (x : (Int × ByteArray)) : Par (laws_markText_b0 x) := by
  unfold laws_markText_b0
  exact (par_bif (par_ite (c := (bytesOf [(IntKind.wrap .u8 (IntKind.wrap .i64 ((48 : Int) + (x.1.tmod (10 : Int)))))]).size + x.2.size ≤ 1099511627776) (par_ret _) par_none) (par_ret _))

def laws_markText_d (a0 : Int) (k : ByteArray → Option Res) : Option Res :=
  bif (decide (a0 ≤ (0 : Int))) then
    k (⟨#[109, 48]⟩ : ByteArray)
  else
    loopK laws_markText_b0 Fuel (a0, (⟨#[]⟩ : ByteArray)) (fun z1 =>
      if (⟨#[109]⟩ : ByteArray).size + z1.2.size ≤ 1099511627776 then
        k ((⟨#[109]⟩ : ByteArray) ++ z1.2)
      else none)

theorem laws_markText_h : ∃ g : Int → (ByteArray → Option Res) → Option Res, g = laws_markText_d := ⟨_, rfl⟩
def laws_markText_k : Int → (ByteArray → Option Res) → Option Res := Classical.choose laws_markText_h
theorem laws_markText_e : laws_markText_k = laws_markText_d := Classical.choose_spec laws_markText_h

theorem laws_markText_p (a0 : Int) : Par (laws_markText_k a0) := by
  rw [laws_markText_e]
  unfold laws_markText_d
  exact (par_bif (par_ret _) ((par_loop laws_markText_bp0 Fuel (a0, (⟨#[]⟩ : ByteArray))).bind fun z1 => (par_ite (c := (⟨#[109]⟩ : ByteArray).size + z1.2.size ≤ 1099511627776) (par_ret _) par_none)))

def laws_markRangeS_vo_b0 (x : (Int × Int × (List dRange))) (k : (Int × Int × (List dRange)) ⊕ (Int × Int × (List dRange)) → Option Res) : Option Res :=
    bif (decide (x.2.1 < (x.2.2.length : Int))) then
      laws_markText_k x.1 (fun y2 =>
        if 0 ≤ x.2.1 ∧ x.2.1 < (x.2.2.length : Int) then
          laws_markText_k (IntKind.wrap .i64 (x.1 + (1 : Int))) (fun y3 =>
            if 0 ≤ x.2.1 ∧ x.2.1 < ((x.2.2.set x.2.1.toNat (y2, (x.2.2.getD x.2.1.toNat (Ty.zero tRange)).2)).length : Int) then
              k (.inl ((IntKind.wrap .i64 ((IntKind.wrap .i64 (x.1 + (1 : Int))) + (1 : Int))), (IntKind.wrap .i64 (x.2.1 + (1 : Int))), ((x.2.2.set x.2.1.toNat (y2, (x.2.2.getD x.2.1.toNat (Ty.zero tRange)).2)).set x.2.1.toNat (((x.2.2.set x.2.1.toNat (y2, (x.2.2.getD x.2.1.toNat (Ty.zero tRange)).2)).getD x.2.1.toNat (Ty.zero tRange)).1, y3))))
            else none)
        else none)
    else
      k (.inr (x.1, x.2.1, x.2.2))

theorem laws_markRangeS_vo_bp0 (x : (Int × Int × (List dRange))) : Par (laws_markRangeS_vo_b0 x) := by
  unfold laws_markRangeS_vo_b0
  exact (par_bif ((laws_markText_p x.1).bind fun y2 => (par_ite (c := 0 ≤ x.2.1 ∧ x.2.1 < (x.2.2.length : Int)) ((laws_markText_p (IntKind.wrap .i64 (x.1 + (1 : Int)))).bind fun y3 => (par_ite (c := 0 ≤ x.2.1 ∧ x.2.1 < ((x.2.2.set x.2.1.toNat (y2, (x.2.2.getD x.2.1.toNat (Ty.zero tRange)).2)).length : Int)) (par_ret _) par_none)) par_none)) (par_ret _))

def laws_markRangeS_vo_d (a0 : Int) (a1 : (List dRange)) (k : (Int × (List dRange)) → Option Res) : Option Res :=
  loopK laws_markRangeS_vo_b0 Fuel (a0, (0 : Int), a1) (fun z1 =>
    k (z1.1, z1.2.2))

theorem laws_markRangeS_vo_h : ∃ g : Int → (List dRange) → ((Int × (List dRange)) → Option Res) → Option Res, g = laws_markRangeS_vo_d := ⟨_, rfl⟩
def laws_markRangeS_vo_k : Int → (List dRange) → ((Int × (List dRange)) → Option Res) → Option Res := Classical.choose laws_markRangeS_vo_h
theorem laws_markRangeS_vo_e : laws_markRangeS_vo_k = laws_markRangeS_vo_d := Classical.choose_spec laws_markRangeS_vo_h

theorem laws_markRangeS_vo_p (a0 : Int) (a1 : (List dRange)) : Par (laws_markRangeS_vo_k a0 a1) := by
  rw [laws_markRangeS_vo_e]
  unfold laws_markRangeS_vo_d
  exact ((par_loop laws_markRangeS_vo_bp0 Fuel (a0, (0 : Int), a1)).bind fun z1 => (par_ret _))

def laws_markWriteS_vo_b0 (x : (Int × Int × (List dWrite))) (k : (Int × Int × (List dWrite)) ⊕ (Int × Int × (List dWrite)) → Option Res) : Option Res :=
    bif (decide (x.2.1 < (x.2.2.length : Int))) then
      laws_markText_k x.1 (fun y2 =>
        if 0 ≤ x.2.1 ∧ x.2.1 < (x.2.2.length : Int) then
          laws_markText_k (IntKind.wrap .i64 (x.1 + (1 : Int))) (fun y3 =>
            if 0 ≤ x.2.1 ∧ x.2.1 < ((x.2.2.set x.2.1.toNat (y2, (x.2.2.getD x.2.1.toNat (Ty.zero tWrite)).2)).length : Int) then
              if 0 ≤ x.2.1 ∧ x.2.1 < (((x.2.2.set x.2.1.toNat (y2, (x.2.2.getD x.2.1.toNat (Ty.zero tWrite)).2)).set x.2.1.toNat (((x.2.2.set x.2.1.toNat (y2, (x.2.2.getD x.2.1.toNat (Ty.zero tWrite)).2)).getD x.2.1.toNat (Ty.zero tWrite)).1, (y3, ((x.2.2.set x.2.1.toNat (y2, (x.2.2.getD x.2.1.toNat (Ty.zero tWrite)).2)).getD x.2.1.toNat (Ty.zero tWrite)).2.2))).length : Int) then
                k (.inl ((IntKind.wrap .i64 ((IntKind.wrap .i64 ((IntKind.wrap .i64 (x.1 + (1 : Int))) + (1 : Int))) + (1 : Int))), (IntKind.wrap .i64 (x.2.1 + (1 : Int))), (((x.2.2.set x.2.1.toNat (y2, (x.2.2.getD x.2.1.toNat (Ty.zero tWrite)).2)).set x.2.1.toNat (((x.2.2.set x.2.1.toNat (y2, (x.2.2.getD x.2.1.toNat (Ty.zero tWrite)).2)).getD x.2.1.toNat (Ty.zero tWrite)).1, (y3, ((x.2.2.set x.2.1.toNat (y2, (x.2.2.getD x.2.1.toNat (Ty.zero tWrite)).2)).getD x.2.1.toNat (Ty.zero tWrite)).2.2))).set x.2.1.toNat ((((x.2.2.set x.2.1.toNat (y2, (x.2.2.getD x.2.1.toNat (Ty.zero tWrite)).2)).set x.2.1.toNat (((x.2.2.set x.2.1.toNat (y2, (x.2.2.getD x.2.1.toNat (Ty.zero tWrite)).2)).getD x.2.1.toNat (Ty.zero tWrite)).1, (y3, ((x.2.2.set x.2.1.toNat (y2, (x.2.2.getD x.2.1.toNat (Ty.zero tWrite)).2)).getD x.2.1.toNat (Ty.zero tWrite)).2.2))).getD x.2.1.toNat (Ty.zero tWrite)).1, ((((x.2.2.set x.2.1.toNat (y2, (x.2.2.getD x.2.1.toNat (Ty.zero tWrite)).2)).set x.2.1.toNat (((x.2.2.set x.2.1.toNat (y2, (x.2.2.getD x.2.1.toNat (Ty.zero tWrite)).2)).getD x.2.1.toNat (Ty.zero tWrite)).1, (y3, ((x.2.2.set x.2.1.toNat (y2, (x.2.2.getD x.2.1.toNat (Ty.zero tWrite)).2)).getD x.2.1.toNat (Ty.zero tWrite)).2.2))).getD x.2.1.toNat (Ty.zero tWrite)).2.1, (((IntKind.wrap .i64 ((IntKind.wrap .i64 (x.1 + (1 : Int))) + (1 : Int))).tmod (3 : Int)) == (0 : Int)))))))
              else none
            else none)
        else none)
    else
      k (.inr (x.1, x.2.1, x.2.2))

theorem laws_markWriteS_vo_bp0 (x : (Int × Int × (List dWrite))) : Par (laws_markWriteS_vo_b0 x) := by
  unfold laws_markWriteS_vo_b0
  exact (par_bif ((laws_markText_p x.1).bind fun y2 => (par_ite (c := 0 ≤ x.2.1 ∧ x.2.1 < (x.2.2.length : Int)) ((laws_markText_p (IntKind.wrap .i64 (x.1 + (1 : Int)))).bind fun y3 => (par_ite (c := 0 ≤ x.2.1 ∧ x.2.1 < ((x.2.2.set x.2.1.toNat (y2, (x.2.2.getD x.2.1.toNat (Ty.zero tWrite)).2)).length : Int)) (par_ite (c := 0 ≤ x.2.1 ∧ x.2.1 < (((x.2.2.set x.2.1.toNat (y2, (x.2.2.getD x.2.1.toNat (Ty.zero tWrite)).2)).set x.2.1.toNat (((x.2.2.set x.2.1.toNat (y2, (x.2.2.getD x.2.1.toNat (Ty.zero tWrite)).2)).getD x.2.1.toNat (Ty.zero tWrite)).1, (y3, ((x.2.2.set x.2.1.toNat (y2, (x.2.2.getD x.2.1.toNat (Ty.zero tWrite)).2)).getD x.2.1.toNat (Ty.zero tWrite)).2.2))).length : Int)) (par_ret _) par_none) par_none)) par_none)) (par_ret _))

def laws_markWriteS_vo_d (a0 : Int) (a1 : (List dWrite)) (k : (Int × (List dWrite)) → Option Res) : Option Res :=
  loopK laws_markWriteS_vo_b0 Fuel (a0, (0 : Int), a1) (fun z1 =>
    k (z1.1, z1.2.2))

theorem laws_markWriteS_vo_h : ∃ g : Int → (List dWrite) → ((Int × (List dWrite)) → Option Res) → Option Res, g = laws_markWriteS_vo_d := ⟨_, rfl⟩
def laws_markWriteS_vo_k : Int → (List dWrite) → ((Int × (List dWrite)) → Option Res) → Option Res := Classical.choose laws_markWriteS_vo_h
theorem laws_markWriteS_vo_e : laws_markWriteS_vo_k = laws_markWriteS_vo_d := Classical.choose_spec laws_markWriteS_vo_h

theorem laws_markWriteS_vo_p (a0 : Int) (a1 : (List dWrite)) : Par (laws_markWriteS_vo_k a0 a1) := by
  rw [laws_markWriteS_vo_e]
  unfold laws_markWriteS_vo_d
  exact ((par_loop laws_markWriteS_vo_bp0 Fuel (a0, (0 : Int), a1)).bind fun z1 => (par_ret _))

def laws_markTxn_va_d (a0 : Int) (a1 : Int) (a2 : Int) (a3 : Int) (a4 : Bool) (a5 : ByteArray) (a6 : Int) (a7 : (List dRange)) (a8 : (List dWrite)) (k : (Int × (List dRange) × (List dWrite)) → Option Res) : Option Res :=
  laws_markRangeS_vo_k a6 a7 (fun y1 =>
    laws_markWriteS_vo_k y1.1 a8 (fun y2 =>
      k (y2.1, y1.2, y2.2)))

theorem laws_markTxn_va_h : ∃ g : Int → Int → Int → Int → Bool → ByteArray → Int → (List dRange) → (List dWrite) → ((Int × (List dRange) × (List dWrite)) → Option Res) → Option Res, g = laws_markTxn_va_d := ⟨_, rfl⟩
def laws_markTxn_va_k : Int → Int → Int → Int → Bool → ByteArray → Int → (List dRange) → (List dWrite) → ((Int × (List dRange) × (List dWrite)) → Option Res) → Option Res := Classical.choose laws_markTxn_va_h
theorem laws_markTxn_va_e : laws_markTxn_va_k = laws_markTxn_va_d := Classical.choose_spec laws_markTxn_va_h

theorem laws_markTxn_va_p (a0 : Int) (a1 : Int) (a2 : Int) (a3 : Int) (a4 : Bool) (a5 : ByteArray) (a6 : Int) (a7 : (List dRange)) (a8 : (List dWrite)) : Par (laws_markTxn_va_k a0 a1 a2 a3 a4 a5 a6 a7 a8) := by
  rw [laws_markTxn_va_e]
  unfold laws_markTxn_va_d
  exact ((laws_markRangeS_vo_p a6 a7).bind fun y1 => ((laws_markWriteS_vo_p y1.1 a8).bind fun y2 => (par_ret _)))

def laws_heldRangeS_b0 (x : ((List dRange) × Int × Int × Int)) (k : ((List dRange) × Int × Int × Int) ⊕ (((List dRange) × Int × Int × Int) ⊕ ((List dRange) × Int × Int × Int)) → Option Res) : Option Res :=
    bif (decide (x.2.2.2 < (x.1.length : Int))) then
      if 0 ≤ x.2.2.2 ∧ x.2.2.2 < (x.1.length : Int) then
        laws_markText_k x.2.1 (fun y3 =>
          bif (!(strEq ((rd (Ty.zero tRange) x.1 x.2.2.2).1) y3)) then
            k (.inr (.inl (x.1, x.2.1, (-1 : Int), x.2.2.2)))
          else
            if 0 ≤ x.2.2.2 ∧ x.2.2.2 < (x.1.length : Int) then
              laws_markText_k (IntKind.wrap .i64 (x.2.1 + (1 : Int))) (fun y4 =>
                bif (!(strEq ((rd (Ty.zero tRange) x.1 x.2.2.2).2) y4)) then
                  k (.inr (.inl (x.1, (IntKind.wrap .i64 (x.2.1 + (1 : Int))), (-1 : Int), x.2.2.2)))
                else
                  k (.inl (x.1, (IntKind.wrap .i64 ((IntKind.wrap .i64 (x.2.1 + (1 : Int))) + (1 : Int))), x.2.2.1, (IntKind.wrap .i64 (x.2.2.2 + (1 : Int))))))
            else none)
      else none
    else
      k (.inr (.inr (x.1, x.2.1, x.2.2.1, x.2.2.2)))

theorem laws_heldRangeS_bp0 (x : ((List dRange) × Int × Int × Int)) : Par (laws_heldRangeS_b0 x) := by
  unfold laws_heldRangeS_b0
  exact (par_bif (par_ite (c := 0 ≤ x.2.2.2 ∧ x.2.2.2 < (x.1.length : Int)) ((laws_markText_p x.2.1).bind fun y3 => (par_bif (par_ret _) (par_ite (c := 0 ≤ x.2.2.2 ∧ x.2.2.2 < (x.1.length : Int)) ((laws_markText_p (IntKind.wrap .i64 (x.2.1 + (1 : Int)))).bind fun y4 => (par_bif (par_ret _) (par_ret _))) par_none))) par_none) (par_ret _))

def laws_heldRangeS_d (a0 : (List dRange)) (a1 : Int) (k : Int → Option Res) : Option Res :=
  loopK laws_heldRangeS_b0 Fuel (a0, a1, (0 : Int), (0 : Int)) (Sum.elim (fun z1 =>
    k z1.2.2.1) (fun z2 =>
    k z2.2.1))

theorem laws_heldRangeS_h : ∃ g : (List dRange) → Int → (Int → Option Res) → Option Res, g = laws_heldRangeS_d := ⟨_, rfl⟩
def laws_heldRangeS_k : (List dRange) → Int → (Int → Option Res) → Option Res := Classical.choose laws_heldRangeS_h
theorem laws_heldRangeS_e : laws_heldRangeS_k = laws_heldRangeS_d := Classical.choose_spec laws_heldRangeS_h

theorem laws_heldRangeS_p (a0 : (List dRange)) (a1 : Int) : Par (laws_heldRangeS_k a0 a1) := by
  rw [laws_heldRangeS_e]
  unfold laws_heldRangeS_d
  exact ((par_loop laws_heldRangeS_bp0 Fuel (a0, a1, (0 : Int), (0 : Int))).bind2 (fun z1 => (par_ret _)) (fun z2 => (par_ret _)))

def laws_heldWriteS_b0 (x : ((List dWrite) × Int × Int × Int)) (k : ((List dWrite) × Int × Int × Int) ⊕ (((List dWrite) × Int × Int × Int) ⊕ ((List dWrite) × Int × Int × Int)) → Option Res) : Option Res :=
    bif (decide (x.2.2.2 < (x.1.length : Int))) then
      if 0 ≤ x.2.2.2 ∧ x.2.2.2 < (x.1.length : Int) then
        laws_markText_k x.2.1 (fun y3 =>
          bif (!(strEq ((rd (Ty.zero tWrite) x.1 x.2.2.2).1) y3)) then
            k (.inr (.inl (x.1, x.2.1, (-1 : Int), x.2.2.2)))
          else
            if 0 ≤ x.2.2.2 ∧ x.2.2.2 < (x.1.length : Int) then
              laws_markText_k (IntKind.wrap .i64 (x.2.1 + (1 : Int))) (fun y4 =>
                bif (!(strEq ((rd (Ty.zero tWrite) x.1 x.2.2.2).2.1) y4)) then
                  k (.inr (.inl (x.1, (IntKind.wrap .i64 (x.2.1 + (1 : Int))), (-1 : Int), x.2.2.2)))
                else
                  if 0 ≤ x.2.2.2 ∧ x.2.2.2 < (x.1.length : Int) then
                    bif (!((rd (Ty.zero tWrite) x.1 x.2.2.2).2.2 == (((IntKind.wrap .i64 ((IntKind.wrap .i64 (x.2.1 + (1 : Int))) + (1 : Int))).tmod (3 : Int)) == (0 : Int)))) then
                      k (.inr (.inl (x.1, (IntKind.wrap .i64 ((IntKind.wrap .i64 (x.2.1 + (1 : Int))) + (1 : Int))), (-1 : Int), x.2.2.2)))
                    else
                      k (.inl (x.1, (IntKind.wrap .i64 ((IntKind.wrap .i64 ((IntKind.wrap .i64 (x.2.1 + (1 : Int))) + (1 : Int))) + (1 : Int))), x.2.2.1, (IntKind.wrap .i64 (x.2.2.2 + (1 : Int)))))
                  else none)
            else none)
      else none
    else
      k (.inr (.inr (x.1, x.2.1, x.2.2.1, x.2.2.2)))

theorem laws_heldWriteS_bp0 (x : ((List dWrite) × Int × Int × Int)) : Par (laws_heldWriteS_b0 x) := by
  unfold laws_heldWriteS_b0
  exact (par_bif (par_ite (c := 0 ≤ x.2.2.2 ∧ x.2.2.2 < (x.1.length : Int)) ((laws_markText_p x.2.1).bind fun y3 => (par_bif (par_ret _) (par_ite (c := 0 ≤ x.2.2.2 ∧ x.2.2.2 < (x.1.length : Int)) ((laws_markText_p (IntKind.wrap .i64 (x.2.1 + (1 : Int)))).bind fun y4 => (par_bif (par_ret _) (par_ite (c := 0 ≤ x.2.2.2 ∧ x.2.2.2 < (x.1.length : Int)) (par_bif (par_ret _) (par_ret _)) par_none))) par_none))) par_none) (par_ret _))

def laws_heldWriteS_d (a0 : (List dWrite)) (a1 : Int) (k : Int → Option Res) : Option Res :=
  loopK laws_heldWriteS_b0 Fuel (a0, a1, (0 : Int), (0 : Int)) (Sum.elim (fun z1 =>
    k z1.2.2.1) (fun z2 =>
    k z2.2.1))

theorem laws_heldWriteS_h : ∃ g : (List dWrite) → Int → (Int → Option Res) → Option Res, g = laws_heldWriteS_d := ⟨_, rfl⟩
def laws_heldWriteS_k : (List dWrite) → Int → (Int → Option Res) → Option Res := Classical.choose laws_heldWriteS_h
theorem laws_heldWriteS_e : laws_heldWriteS_k = laws_heldWriteS_d := Classical.choose_spec laws_heldWriteS_h

theorem laws_heldWriteS_p (a0 : (List dWrite)) (a1 : Int) : Par (laws_heldWriteS_k a0 a1) := by
  rw [laws_heldWriteS_e]
  unfold laws_heldWriteS_d
  exact ((par_loop laws_heldWriteS_bp0 Fuel (a0, a1, (0 : Int), (0 : Int))).bind2 (fun z1 => (par_ret _)) (fun z2 => (par_ret _)))

def laws_heldTxn_d (a0 : dTxn) (a1 : Int) (k : Int → Option Res) : Option Res :=
  laws_heldRangeS_k a0.2.2.2.2.1 a1 (fun y1 =>
    bif (decide (y1 < (0 : Int))) then
      k (-1 : Int)
    else
      laws_heldWriteS_k a0.2.2.2.2.2.1 y1 (fun y2 =>
        bif (decide (y2 < (0 : Int))) then
          k (-1 : Int)
        else
          k y2))

theorem laws_heldTxn_h : ∃ g : dTxn → Int → (Int → Option Res) → Option Res, g = laws_heldTxn_d := ⟨_, rfl⟩
def laws_heldTxn_k : dTxn → Int → (Int → Option Res) → Option Res := Classical.choose laws_heldTxn_h
theorem laws_heldTxn_e : laws_heldTxn_k = laws_heldTxn_d := Classical.choose_spec laws_heldTxn_h

theorem laws_heldTxn_p (a0 : dTxn) (a1 : Int) : Par (laws_heldTxn_k a0 a1) := by
  rw [laws_heldTxn_e]
  unfold laws_heldTxn_d
  exact ((laws_heldRangeS_p a0.2.2.2.2.1 a1).bind fun y1 => (par_bif (par_ret _) ((laws_heldWriteS_p a0.2.2.2.2.2.1 y1).bind fun y2 => (par_bif (par_ret _) (par_ret _)))))

def laws_FnExactReadRange_j5000030 (x : (Bool × Int × Int × Int × Int × Int × Bool × ByteArray × (List dRange) × (List dWrite))) (k : (Bool × Int × Int × Int × Int × Int × Bool × ByteArray × (List dRange) × (List dWrite)) → Option Res) : Option Res :=
    laws_heldTxn_k (x.2.2.1, (x.2.2.2.1, (x.2.2.2.2.1, (x.2.2.2.2.2.1, (x.2.2.2.2.2.2.2.2.1, (x.2.2.2.2.2.2.2.2.2, (x.2.2.2.2.2.2.1, x.2.2.2.2.2.2.2.1))))))) (1 : Int) (fun y26 =>
      bif (decide (y26 < (0 : Int))) then
        k (false, x.2.1, x.2.2.1, x.2.2.2.1, x.2.2.2.2.1, x.2.2.2.2.2.1, x.2.2.2.2.2.2.1, x.2.2.2.2.2.2.2.1, x.2.2.2.2.2.2.2.2.1, x.2.2.2.2.2.2.2.2.2)
      else
        bif (y26 != x.2.1) then
          k (false, x.2.1, x.2.2.1, x.2.2.2.1, x.2.2.2.2.1, x.2.2.2.2.2.1, x.2.2.2.2.2.2.1, x.2.2.2.2.2.2.2.1, x.2.2.2.2.2.2.2.2.1, x.2.2.2.2.2.2.2.2.2)
        else
          k (true, x.2.1, x.2.2.1, x.2.2.2.1, x.2.2.2.2.1, x.2.2.2.2.2.1, x.2.2.2.2.2.2.1, x.2.2.2.2.2.2.2.1, x.2.2.2.2.2.2.2.2.1, x.2.2.2.2.2.2.2.2.2))

theorem laws_FnExactReadRange_jp5000030 (x : (Bool × Int × Int × Int × Int × Int × Bool × ByteArray × (List dRange) × (List dWrite))) : Par (laws_FnExactReadRange_j5000030 x) := by
  unfold laws_FnExactReadRange_j5000030
  exact ((laws_heldTxn_p (x.2.2.1, (x.2.2.2.1, (x.2.2.2.2.1, (x.2.2.2.2.2.1, (x.2.2.2.2.2.2.2.2.1, (x.2.2.2.2.2.2.2.2.2, (x.2.2.2.2.2.2.1, x.2.2.2.2.2.2.2.1))))))) (1 : Int)).bind fun y26 => (par_bif (par_ret _) (par_bif (par_ret _) (par_ret _))))

def laws_FnExactReadRange_j5000019 (x : (Bool × Bool × Int × Int × Int × Int × (List dRange) × (List dWrite) × Bool × ByteArray × ByteArray × ByteArray × Int × Int × Int × Int × Bool × ByteArray × Int × Int × Int × Int × Bool × ByteArray × (List dRange) × (List dWrite) × (List dRange) × (List dWrite))) (k : ((Bool × Bool × Int × Int × Int × Int × (List dRange) × (List dWrite) × Bool × ByteArray × ByteArray × ByteArray × Int × Int × Int × Int × Bool × ByteArray × Int × Int × Int × Int × Bool × ByteArray × (List dRange) × (List dWrite) × (List dRange) × (List dWrite)) ⊕ (Bool × Int × Int × Int × Int × Bool × ByteArray × (List dRange) × (List dWrite))) → Option Res) : Option Res :=
    laws_markTxn_va_k x.2.2.2.2.2.2.2.2.2.2.2.2.2.2.2.2.2.2.1 x.2.2.2.2.2.2.2.2.2.2.2.2.2.2.2.2.2.2.2.1 x.2.2.2.2.2.2.2.2.2.2.2.2.2.2.2.2.2.2.2.2.1 x.2.2.2.2.2.2.2.2.2.2.2.2.2.2.2.2.2.2.2.2.2.1 x.2.2.2.2.2.2.2.2.2.2.2.2.2.2.2.2.2.2.2.2.2.2.1 x.2.2.2.2.2.2.2.2.2.2.2.2.2.2.2.2.2.2.2.2.2.2.2.1 (1 : Int) x.2.2.2.2.2.2.2.2.2.2.2.2.2.2.2.2.2.2.2.2.2.2.2.2.2.2.1 x.2.2.2.2.2.2.2.2.2.2.2.2.2.2.2.2.2.2.2.2.2.2.2.2.2.2.2 (fun y19 =>
      laws_heldTxn_k (x.2.2.2.2.2.2.2.2.2.2.2.2.2.2.2.2.2.2.1, (x.2.2.2.2.2.2.2.2.2.2.2.2.2.2.2.2.2.2.2.1, (x.2.2.2.2.2.2.2.2.2.2.2.2.2.2.2.2.2.2.2.2.1, (x.2.2.2.2.2.2.2.2.2.2.2.2.2.2.2.2.2.2.2.2.2.1, (y19.2.1, (y19.2.2, (x.2.2.2.2.2.2.2.2.2.2.2.2.2.2.2.2.2.2.2.2.2.2.1, x.2.2.2.2.2.2.2.2.2.2.2.2.2.2.2.2.2.2.2.2.2.2.2.1))))))) (1 : Int) (fun y20 =>
        bif (decide (y20 < (0 : Int))) then
          k (.inl (false, x.2.1, x.2.2.1, x.2.2.2.1, x.2.2.2.2.1, x.2.2.2.2.2.1, x.2.2.2.2.2.2.1, x.2.2.2.2.2.2.2.1, x.2.2.2.2.2.2.2.2.1, x.2.2.2.2.2.2.2.2.2.1, x.2.2.2.2.2.2.2.2.2.2.1, x.2.2.2.2.2.2.2.2.2.2.2.1, x.2.2.2.2.2.2.2.2.2.2.2.2.1, x.2.2.2.2.2.2.2.2.2.2.2.2.2.1, x.2.2.2.2.2.2.2.2.2.2.2.2.2.2.1, x.2.2.2.2.2.2.2.2.2.2.2.2.2.2.2.1, x.2.2.2.2.2.2.2.2.2.2.2.2.2.2.2.2.1, x.2.2.2.2.2.2.2.2.2.2.2.2.2.2.2.2.2.1, x.2.2.2.2.2.2.2.2.2.2.2.2.2.2.2.2.2.2.1, x.2.2.2.2.2.2.2.2.2.2.2.2.2.2.2.2.2.2.2.1, x.2.2.2.2.2.2.2.2.2.2.2.2.2.2.2.2.2.2.2.2.1, x.2.2.2.2.2.2.2.2.2.2.2.2.2.2.2.2.2.2.2.2.2.1, x.2.2.2.2.2.2.2.2.2.2.2.2.2.2.2.2.2.2.2.2.2.2.1, x.2.2.2.2.2.2.2.2.2.2.2.2.2.2.2.2.2.2.2.2.2.2.2.1, x.2.2.2.2.2.2.2.2.2.2.2.2.2.2.2.2.2.2.2.2.2.2.2.2.1, x.2.2.2.2.2.2.2.2.2.2.2.2.2.2.2.2.2.2.2.2.2.2.2.2.2.1, y19.2.1, y19.2.2))
        else
          bif (y20 != y19.1) then
            k (.inl (false, x.2.1, x.2.2.1, x.2.2.2.1, x.2.2.2.2.1, x.2.2.2.2.2.1, x.2.2.2.2.2.2.1, x.2.2.2.2.2.2.2.1, x.2.2.2.2.2.2.2.2.1, x.2.2.2.2.2.2.2.2.2.1, x.2.2.2.2.2.2.2.2.2.2.1, x.2.2.2.2.2.2.2.2.2.2.2.1, x.2.2.2.2.2.2.2.2.2.2.2.2.1, x.2.2.2.2.2.2.2.2.2.2.2.2.2.1, x.2.2.2.2.2.2.2.2.2.2.2.2.2.2.1, x.2.2.2.2.2.2.2.2.2.2.2.2.2.2.2.1, x.2.2.2.2.2.2.2.2.2.2.2.2.2.2.2.2.1, x.2.2.2.2.2.2.2.2.2.2.2.2.2.2.2.2.2.1, x.2.2.2.2.2.2.2.2.2.2.2.2.2.2.2.2.2.2.1, x.2.2.2.2.2.2.2.2.2.2.2.2.2.2.2.2.2.2.2.1, x.2.2.2.2.2.2.2.2.2.2.2.2.2.2.2.2.2.2.2.2.1, x.2.2.2.2.2.2.2.2.2.2.2.2.2.2.2.2.2.2.2.2.2.1, x.2.2.2.2.2.2.2.2.2.2.2.2.2.2.2.2.2.2.2.2.2.2.1, x.2.2.2.2.2.2.2.2.2.2.2.2.2.2.2.2.2.2.2.2.2.2.2.1, x.2.2.2.2.2.2.2.2.2.2.2.2.2.2.2.2.2.2.2.2.2.2.2.2.1, x.2.2.2.2.2.2.2.2.2.2.2.2.2.2.2.2.2.2.2.2.2.2.2.2.2.1, y19.2.1, y19.2.2))
          else
            laws_toTxn_k (x.2.2.1, (x.2.2.2.1, (x.2.2.2.2.1, (x.2.2.2.2.2.1, (x.2.2.2.2.2.2.1, (x.2.2.2.2.2.2.2.1, (x.2.2.2.2.2.2.2.2.1, x.2.2.2.2.2.2.2.2.2.1))))))) (fun y21 =>
              laws_toRange_k (x.2.2.2.2.2.2.2.2.2.2.1, x.2.2.2.2.2.2.2.2.2.2.2.1) (fun y22 =>
                impl_ReadRange_k (y21.1, (y21.2.1, (y21.2.2.1, (y21.2.2.2.1, (y21.2.2.2.2.2.2.1, (y21.2.2.2.2.2.2.2, (y21.2.2.2.2.1, y21.2.2.2.2.2.1))))))) y22 (fun y23 =>
                  laws_eqTxn_k (y23.1, (y23.2.1, (y23.2.2.1, (y23.2.2.2.1, (y23.2.2.2.2.2.2.2.1, (y23.2.2.2.2.2.2.2.2, (y23.2.2.2.2.1, y23.2.2.2.2.2.1))))))) (x.2.2.2.2.2.2.2.2.2.2.2.2.1, (x.2.2.2.2.2.2.2.2.2.2.2.2.2.1, (x.2.2.2.2.2.2.2.2.2.2.2.2.2.2.1, (x.2.2.2.2.2.2.2.2.2.2.2.2.2.2.2.1, (x.2.2.2.2.2.2.2.2.2.2.2.2.2.2.2.2.2.2.2.2.2.2.2.2.1, (x.2.2.2.2.2.2.2.2.2.2.2.2.2.2.2.2.2.2.2.2.2.2.2.2.2.1, (x.2.2.2.2.2.2.2.2.2.2.2.2.2.2.2.2.1, x.2.2.2.2.2.2.2.2.2.2.2.2.2.2.2.2.2.1))))))) (fun y24 =>
                    bif (!y24) then
                      k (.inl (false, x.2.1, x.2.2.1, x.2.2.2.1, x.2.2.2.2.1, x.2.2.2.2.2.1, x.2.2.2.2.2.2.1, x.2.2.2.2.2.2.2.1, x.2.2.2.2.2.2.2.2.1, x.2.2.2.2.2.2.2.2.2.1, x.2.2.2.2.2.2.2.2.2.2.1, x.2.2.2.2.2.2.2.2.2.2.2.1, x.2.2.2.2.2.2.2.2.2.2.2.2.1, x.2.2.2.2.2.2.2.2.2.2.2.2.2.1, x.2.2.2.2.2.2.2.2.2.2.2.2.2.2.1, x.2.2.2.2.2.2.2.2.2.2.2.2.2.2.2.1, x.2.2.2.2.2.2.2.2.2.2.2.2.2.2.2.2.1, x.2.2.2.2.2.2.2.2.2.2.2.2.2.2.2.2.2.1, x.2.2.2.2.2.2.2.2.2.2.2.2.2.2.2.2.2.2.1, x.2.2.2.2.2.2.2.2.2.2.2.2.2.2.2.2.2.2.2.1, x.2.2.2.2.2.2.2.2.2.2.2.2.2.2.2.2.2.2.2.2.1, x.2.2.2.2.2.2.2.2.2.2.2.2.2.2.2.2.2.2.2.2.2.1, x.2.2.2.2.2.2.2.2.2.2.2.2.2.2.2.2.2.2.2.2.2.2.1, x.2.2.2.2.2.2.2.2.2.2.2.2.2.2.2.2.2.2.2.2.2.2.2.1, x.2.2.2.2.2.2.2.2.2.2.2.2.2.2.2.2.2.2.2.2.2.2.2.2.1, x.2.2.2.2.2.2.2.2.2.2.2.2.2.2.2.2.2.2.2.2.2.2.2.2.2.1, y19.2.1, y19.2.2))
                    else
                      bif (!(y23.2.2.2.2.2.2.1 == x.2.1)) then
                        k (.inl (false, x.2.1, x.2.2.1, x.2.2.2.1, x.2.2.2.2.1, x.2.2.2.2.2.1, x.2.2.2.2.2.2.1, x.2.2.2.2.2.2.2.1, x.2.2.2.2.2.2.2.2.1, x.2.2.2.2.2.2.2.2.2.1, x.2.2.2.2.2.2.2.2.2.2.1, x.2.2.2.2.2.2.2.2.2.2.2.1, x.2.2.2.2.2.2.2.2.2.2.2.2.1, x.2.2.2.2.2.2.2.2.2.2.2.2.2.1, x.2.2.2.2.2.2.2.2.2.2.2.2.2.2.1, x.2.2.2.2.2.2.2.2.2.2.2.2.2.2.2.1, x.2.2.2.2.2.2.2.2.2.2.2.2.2.2.2.2.1, x.2.2.2.2.2.2.2.2.2.2.2.2.2.2.2.2.2.1, x.2.2.2.2.2.2.2.2.2.2.2.2.2.2.2.2.2.2.1, x.2.2.2.2.2.2.2.2.2.2.2.2.2.2.2.2.2.2.2.1, x.2.2.2.2.2.2.2.2.2.2.2.2.2.2.2.2.2.2.2.2.1, x.2.2.2.2.2.2.2.2.2.2.2.2.2.2.2.2.2.2.2.2.2.1, x.2.2.2.2.2.2.2.2.2.2.2.2.2.2.2.2.2.2.2.2.2.2.1, x.2.2.2.2.2.2.2.2.2.2.2.2.2.2.2.2.2.2.2.2.2.2.2.1, x.2.2.2.2.2.2.2.2.2.2.2.2.2.2.2.2.2.2.2.2.2.2.2.2.1, x.2.2.2.2.2.2.2.2.2.2.2.2.2.2.2.2.2.2.2.2.2.2.2.2.2.1, y19.2.1, y19.2.2))
                      else
                        laws_FnExactReadRange_j5000030 (x.1, y19.1, x.2.2.2.2.2.2.2.2.2.2.2.2.2.2.2.2.2.2.1, x.2.2.2.2.2.2.2.2.2.2.2.2.2.2.2.2.2.2.2.1, x.2.2.2.2.2.2.2.2.2.2.2.2.2.2.2.2.2.2.2.2.1, x.2.2.2.2.2.2.2.2.2.2.2.2.2.2.2.2.2.2.2.2.2.1, x.2.2.2.2.2.2.2.2.2.2.2.2.2.2.2.2.2.2.2.2.2.2.1, x.2.2.2.2.2.2.2.2.2.2.2.2.2.2.2.2.2.2.2.2.2.2.2.1, y19.2.1, y19.2.2) (fun z25 =>
                          k (.inr (z25.1, z25.2.2.1, z25.2.2.2.1, z25.2.2.2.2.1, z25.2.2.2.2.2.1, z25.2.2.2.2.2.2.1, z25.2.2.2.2.2.2.2.1, z25.2.2.2.2.2.2.2.2.1, z25.2.2.2.2.2.2.2.2.2)))))))))

theorem laws_FnExactReadRange_jp5000019 (x : (Bool × Bool × Int × Int × Int × Int × (List dRange) × (List dWrite) × Bool × ByteArray × ByteArray × ByteArray × Int × Int × Int × Int × Bool × ByteArray × Int × Int × Int × Int × Bool × ByteArray × (List dRange) × (List dWrite) × (List dRange) × (List dWrite))) : Par (laws_FnExactReadRange_j5000019 x) := by
  unfold laws_FnExactReadRange_j5000019
  exact ((laws_markTxn_va_p x.2.2.2.2.2.2.2.2.2.2.2.2.2.2.2.2.2.2.1 x.2.2.2.2.2.2.2.2.2.2.2.2.2.2.2.2.2.2.2.1 x.2.2.2.2.2.2.2.2.2.2.2.2.2.2.2.2.2.2.2.2.1 x.2.2.2.2.2.2.2.2.2.2.2.2.2.2.2.2.2.2.2.2.2.1 x.2.2.2.2.2.2.2.2.2.2.2.2.2.2.2.2.2.2.2.2.2.2.1 x.2.2.2.2.2.2.2.2.2.2.2.2.2.2.2.2.2.2.2.2.2.2.2.1 (1 : Int) x.2.2.2.2.2.2.2.2.2.2.2.2.2.2.2.2.2.2.2.2.2.2.2.2.2.2.1 x.2.2.2.2.2.2.2.2.2.2.2.2.2.2.2.2.2.2.2.2.2.2.2.2.2.2.2).bind fun y19 => ((laws_heldTxn_p (x.2.2.2.2.2.2.2.2.2.2.2.2.2.2.2.2.2.2.1, (x.2.2.2.2.2.2.2.2.2.2.2.2.2.2.2.2.2.2.2.1, (x.2.2.2.2.2.2.2.2.2.2.2.2.2.2.2.2.2.2.2.2.1, (x.2.2.2.2.2.2.2.2.2.2.2.2.2.2.2.2.2.2.2.2.2.1, (y19.2.1, (y19.2.2, (x.2.2.2.2.2.2.2.2.2.2.2.2.2.2.2.2.2.2.2.2.2.2.1, x.2.2.2.2.2.2.2.2.2.2.2.2.2.2.2.2.2.2.2.2.2.2.2.1))))))) (1 : Int)).bind fun y20 => (par_bif (par_ret _) (par_bif (par_ret _) ((laws_toTxn_p (x.2.2.1, (x.2.2.2.1, (x.2.2.2.2.1, (x.2.2.2.2.2.1, (x.2.2.2.2.2.2.1, (x.2.2.2.2.2.2.2.1, (x.2.2.2.2.2.2.2.2.1, x.2.2.2.2.2.2.2.2.2.1)))))))).bind fun y21 => ((laws_toRange_p (x.2.2.2.2.2.2.2.2.2.2.1, x.2.2.2.2.2.2.2.2.2.2.2.1)).bind fun y22 => ((impl_ReadRange_p (y21.1, (y21.2.1, (y21.2.2.1, (y21.2.2.2.1, (y21.2.2.2.2.2.2.1, (y21.2.2.2.2.2.2.2, (y21.2.2.2.2.1, y21.2.2.2.2.2.1))))))) y22).bind fun y23 => ((laws_eqTxn_p (y23.1, (y23.2.1, (y23.2.2.1, (y23.2.2.2.1, (y23.2.2.2.2.2.2.2.1, (y23.2.2.2.2.2.2.2.2, (y23.2.2.2.2.1, y23.2.2.2.2.2.1))))))) (x.2.2.2.2.2.2.2.2.2.2.2.2.1, (x.2.2.2.2.2.2.2.2.2.2.2.2.2.1, (x.2.2.2.2.2.2.2.2.2.2.2.2.2.2.1, (x.2.2.2.2.2.2.2.2.2.2.2.2.2.2.2.1, (x.2.2.2.2.2.2.2.2.2.2.2.2.2.2.2.2.2.2.2.2.2.2.2.2.1, (x.2.2.2.2.2.2.2.2.2.2.2.2.2.2.2.2.2.2.2.2.2.2.2.2.2.1, (x.2.2.2.2.2.2.2.2.2.2.2.2.2.2.2.2.1, x.2.2.2.2.2.2.2.2.2.2.2.2.2.2.2.2.2.1)))))))).bind fun y24 => (par_bif (par_ret _) (par_bif (par_ret _) ((laws_FnExactReadRange_jp5000030 (x.1, y19.1, x.2.2.2.2.2.2.2.2.2.2.2.2.2.2.2.2.2.2.1, x.2.2.2.2.2.2.2.2.2.2.2.2.2.2.2.2.2.2.2.1, x.2.2.2.2.2.2.2.2.2.2.2.2.2.2.2.2.2.2.2.2.1, x.2.2.2.2.2.2.2.2.2.2.2.2.2.2.2.2.2.2.2.2.2.1, x.2.2.2.2.2.2.2.2.2.2.2.2.2.2.2.2.2.2.2.2.2.2.1, x.2.2.2.2.2.2.2.2.2.2.2.2.2.2.2.2.2.2.2.2.2.2.2.1, y19.2.1, y19.2.2)).bind fun z25 => (par_ret _))))))))))))

def laws_FnExactReadRange_j5000013 (x : (Bool × Bool × Bool × Int × Int × Int × Int × (List dRange) × (List dWrite) × Bool × ByteArray × ByteArray × ByteArray × Int × Int × Int × Int × Bool × ByteArray × Int × Int × Int × Int × Bool × ByteArray × Int × Int × Int × Int × Bool × ByteArray × (List dRange) × (List dWrite) × (List dRange) × (List dWrite) × (List dRange) × (List dWrite))) (k : ((Bool × Bool × Bool × Int × Int × Int × Int × (List dRange) × (List dWrite) × Bool × ByteArray × ByteArray × ByteArray × Int × Int × Int × Int × Bool × ByteArray × Int × Int × Int × Int × Bool × ByteArray × Int × Int × Int × Int × Bool × ByteArray × (List dRange) × (List dWrite) × (List dRange) × (List dWrite) × (List dRange) × (List dWrite)) ⊕ ((Bool × Bool × Int × Int × Int × Int × (List dRange) × (List dWrite) × Bool × ByteArray × ByteArray × ByteArray × Int × Int × Int × Int × Bool × ByteArray × Int × Int × Int × Int × Bool × ByteArray × (List dRange) × (List dWrite) × (List dRange) × (List dWrite)) ⊕ (Bool × Int × Int × Int × Int × Bool × ByteArray × (List dRange) × (List dWrite)))) → Option Res) : Option Res :=
    laws_toTxn_k (x.2.2.2.1, (x.2.2.2.2.1, (x.2.2.2.2.2.1, (x.2.2.2.2.2.2.1, (x.2.2.2.2.2.2.2.1, (x.2.2.2.2.2.2.2.2.1, (x.2.2.2.2.2.2.2.2.2.1, x.2.2.2.2.2.2.2.2.2.2.1))))))) (fun y13 =>
      laws_eqTxn_k (x.2.2.2.2.2.2.2.2.2.2.2.2.2.2.2.2.2.2.2.1, (x.2.2.2.2.2.2.2.2.2.2.2.2.2.2.2.2.2.2.2.2.1, (x.2.2.2.2.2.2.2.2.2.2.2.2.2.2.2.2.2.2.2.2.2.1, (x.2.2.2.2.2.2.2.2.2.2.2.2.2.2.2.2.2.2.2.2.2.2.1, (x.2.2.2.2.2.2.2.2.2.2.2.2.2.2.2.2.2.2.2.2.2.2.2.2.2.2.2.2.2.2.2.2.2.1, (x.2.2.2.2.2.2.2.2.2.2.2.2.2.2.2.2.2.2.2.2.2.2.2.2.2.2.2.2.2.2.2.2.2.2.1, (x.2.2.2.2.2.2.2.2.2.2.2.2.2.2.2.2.2.2.2.2.2.2.2.1, x.2.2.2.2.2.2.2.2.2.2.2.2.2.2.2.2.2.2.2.2.2.2.2.2.1))))))) (y13.1, (y13.2.1, (y13.2.2.1, (y13.2.2.2.1, (y13.2.2.2.2.2.2.1, (y13.2.2.2.2.2.2.2, (y13.2.2.2.2.1, y13.2.2.2.2.2.1))))))) (fun y14 =>
        bif (!y14) then
          k (.inl (false, x.2.1, x.2.2.1, x.2.2.2.1, x.2.2.2.2.1, x.2.2.2.2.2.1, x.2.2.2.2.2.2.1, x.2.2.2.2.2.2.2.1, x.2.2.2.2.2.2.2.2.1, x.2.2.2.2.2.2.2.2.2.1, x.2.2.2.2.2.2.2.2.2.2.1, x.2.2.2.2.2.2.2.2.2.2.2.1, x.2.2.2.2.2.2.2.2.2.2.2.2.1, x.2.2.2.2.2.2.2.2.2.2.2.2.2.1, x.2.2.2.2.2.2.2.2.2.2.2.2.2.2.1, x.2.2.2.2.2.2.2.2.2.2.2.2.2.2.2.1, x.2.2.2.2.2.2.2.2.2.2.2.2.2.2.2.2.1, x.2.2.2.2.2.2.2.2.2.2.2.2.2.2.2.2.2.1, x.2.2.2.2.2.2.2.2.2.2.2.2.2.2.2.2.2.2.1, x.2.2.2.2.2.2.2.2.2.2.2.2.2.2.2.2.2.2.2.1, x.2.2.2.2.2.2.2.2.2.2.2.2.2.2.2.2.2.2.2.2.1, x.2.2.2.2.2.2.2.2.2.2.2.2.2.2.2.2.2.2.2.2.2.1, x.2.2.2.2.2.2.2.2.2.2.2.2.2.2.2.2.2.2.2.2.2.2.1, x.2.2.2.2.2.2.2.2.2.2.2.2.2.2.2.2.2.2.2.2.2.2.2.1, x.2.2.2.2.2.2.2.2.2.2.2.2.2.2.2.2.2.2.2.2.2.2.2.2.1, x.2.2.2.2.2.2.2.2.2.2.2.2.2.2.2.2.2.2.2.2.2.2.2.2.2.1, x.2.2.2.2.2.2.2.2.2.2.2.2.2.2.2.2.2.2.2.2.2.2.2.2.2.2.1, x.2.2.2.2.2.2.2.2.2.2.2.2.2.2.2.2.2.2.2.2.2.2.2.2.2.2.2.1, x.2.2.2.2.2.2.2.2.2.2.2.2.2.2.2.2.2.2.2.2.2.2.2.2.2.2.2.2.1, x.2.2.2.2.2.2.2.2.2.2.2.2.2.2.2.2.2.2.2.2.2.2.2.2.2.2.2.2.2.1, x.2.2.2.2.2.2.2.2.2.2.2.2.2.2.2.2.2.2.2.2.2.2.2.2.2.2.2.2.2.2.1, x.2.2.2.2.2.2.2.2.2.2.2.2.2.2.2.2.2.2.2.2.2.2.2.2.2.2.2.2.2.2.2.1, x.2.2.2.2.2.2.2.2.2.2.2.2.2.2.2.2.2.2.2.2.2.2.2.2.2.2.2.2.2.2.2.2.1, x.2.2.2.2.2.2.2.2.2.2.2.2.2.2.2.2.2.2.2.2.2.2.2.2.2.2.2.2.2.2.2.2.2.1, x.2.2.2.2.2.2.2.2.2.2.2.2.2.2.2.2.2.2.2.2.2.2.2.2.2.2.2.2.2.2.2.2.2.2.1, x.2.2.2.2.2.2.2.2.2.2.2.2.2.2.2.2.2.2.2.2.2.2.2.2.2.2.2.2.2.2.2.2.2.2.2.1, x.2.2.2.2.2.2.2.2.2.2.2.2.2.2.2.2.2.2.2.2.2.2.2.2.2.2.2.2.2.2.2.2.2.2.2.2))
        else
          laws_markTxn_va_k x.2.2.2.2.2.2.2.2.2.2.2.2.2.2.2.2.2.2.2.1 x.2.2.2.2.2.2.2.2.2.2.2.2.2.2.2.2.2.2.2.2.1 x.2.2.2.2.2.2.2.2.2.2.2.2.2.2.2.2.2.2.2.2.2.1 x.2.2.2.2.2.2.2.2.2.2.2.2.2.2.2.2.2.2.2.2.2.2.1 x.2.2.2.2.2.2.2.2.2.2.2.2.2.2.2.2.2.2.2.2.2.2.2.1 x.2.2.2.2.2.2.2.2.2.2.2.2.2.2.2.2.2.2.2.2.2.2.2.2.1 (1 : Int) x.2.2.2.2.2.2.2.2.2.2.2.2.2.2.2.2.2.2.2.2.2.2.2.2.2.2.2.2.2.2.2.2.2.1 x.2.2.2.2.2.2.2.2.2.2.2.2.2.2.2.2.2.2.2.2.2.2.2.2.2.2.2.2.2.2.2.2.2.2.1 (fun y15 =>
            bif (decide (y15.1 < (0 : Int))) then
              k (.inl (false, x.2.1, x.2.2.1, x.2.2.2.1, x.2.2.2.2.1, x.2.2.2.2.2.1, x.2.2.2.2.2.2.1, x.2.2.2.2.2.2.2.1, x.2.2.2.2.2.2.2.2.1, x.2.2.2.2.2.2.2.2.2.1, x.2.2.2.2.2.2.2.2.2.2.1, x.2.2.2.2.2.2.2.2.2.2.2.1, x.2.2.2.2.2.2.2.2.2.2.2.2.1, x.2.2.2.2.2.2.2.2.2.2.2.2.2.1, x.2.2.2.2.2.2.2.2.2.2.2.2.2.2.1, x.2.2.2.2.2.2.2.2.2.2.2.2.2.2.2.1, x.2.2.2.2.2.2.2.2.2.2.2.2.2.2.2.2.1, x.2.2.2.2.2.2.2.2.2.2.2.2.2.2.2.2.2.1, x.2.2.2.2.2.2.2.2.2.2.2.2.2.2.2.2.2.2.1, x.2.2.2.2.2.2.2.2.2.2.2.2.2.2.2.2.2.2.2.1, x.2.2.2.2.2.2.2.2.2.2.2.2.2.2.2.2.2.2.2.2.1, x.2.2.2.2.2.2.2.2.2.2.2.2.2.2.2.2.2.2.2.2.2.1, x.2.2.2.2.2.2.2.2.2.2.2.2.2.2.2.2.2.2.2.2.2.2.1, x.2.2.2.2.2.2.2.2.2.2.2.2.2.2.2.2.2.2.2.2.2.2.2.1, x.2.2.2.2.2.2.2.2.2.2.2.2.2.2.2.2.2.2.2.2.2.2.2.2.1, x.2.2.2.2.2.2.2.2.2.2.2.2.2.2.2.2.2.2.2.2.2.2.2.2.2.1, x.2.2.2.2.2.2.2.2.2.2.2.2.2.2.2.2.2.2.2.2.2.2.2.2.2.2.1, x.2.2.2.2.2.2.2.2.2.2.2.2.2.2.2.2.2.2.2.2.2.2.2.2.2.2.2.1, x.2.2.2.2.2.2.2.2.2.2.2.2.2.2.2.2.2.2.2.2.2.2.2.2.2.2.2.2.1, x.2.2.2.2.2.2.2.2.2.2.2.2.2.2.2.2.2.2.2.2.2.2.2.2.2.2.2.2.2.1, x.2.2.2.2.2.2.2.2.2.2.2.2.2.2.2.2.2.2.2.2.2.2.2.2.2.2.2.2.2.2.1, x.2.2.2.2.2.2.2.2.2.2.2.2.2.2.2.2.2.2.2.2.2.2.2.2.2.2.2.2.2.2.2.1, x.2.2.2.2.2.2.2.2.2.2.2.2.2.2.2.2.2.2.2.2.2.2.2.2.2.2.2.2.2.2.2.2.1, y15.2.1, y15.2.2, x.2.2.2.2.2.2.2.2.2.2.2.2.2.2.2.2.2.2.2.2.2.2.2.2.2.2.2.2.2.2.2.2.2.2.2.1, x.2.2.2.2.2.2.2.2.2.2.2.2.2.2.2.2.2.2.2.2.2.2.2.2.2.2.2.2.2.2.2.2.2.2.2.2))
            else
              laws_eqTxn_k (x.2.2.2.2.2.2.2.2.2.2.2.2.2.2.2.2.2.2.2.2.2.2.2.2.2.1, (x.2.2.2.2.2.2.2.2.2.2.2.2.2.2.2.2.2.2.2.2.2.2.2.2.2.2.1, (x.2.2.2.2.2.2.2.2.2.2.2.2.2.2.2.2.2.2.2.2.2.2.2.2.2.2.2.1, (x.2.2.2.2.2.2.2.2.2.2.2.2.2.2.2.2.2.2.2.2.2.2.2.2.2.2.2.2.1, (x.2.2.2.2.2.2.2.2.2.2.2.2.2.2.2.2.2.2.2.2.2.2.2.2.2.2.2.2.2.2.2.2.2.2.2.1, (x.2.2.2.2.2.2.2.2.2.2.2.2.2.2.2.2.2.2.2.2.2.2.2.2.2.2.2.2.2.2.2.2.2.2.2.2, (x.2.2.2.2.2.2.2.2.2.2.2.2.2.2.2.2.2.2.2.2.2.2.2.2.2.2.2.2.2.1, x.2.2.2.2.2.2.2.2.2.2.2.2.2.2.2.2.2.2.2.2.2.2.2.2.2.2.2.2.2.2.1))))))) (x.2.2.2.2.2.2.2.2.2.2.2.2.2.1, (x.2.2.2.2.2.2.2.2.2.2.2.2.2.2.1, (x.2.2.2.2.2.2.2.2.2.2.2.2.2.2.2.1, (x.2.2.2.2.2.2.2.2.2.2.2.2.2.2.2.2.1, (x.2.2.2.2.2.2.2.2.2.2.2.2.2.2.2.2.2.2.2.2.2.2.2.2.2.2.2.2.2.2.2.1, (x.2.2.2.2.2.2.2.2.2.2.2.2.2.2.2.2.2.2.2.2.2.2.2.2.2.2.2.2.2.2.2.2.1, (x.2.2.2.2.2.2.2.2.2.2.2.2.2.2.2.2.2.1, x.2.2.2.2.2.2.2.2.2.2.2.2.2.2.2.2.2.2.1))))))) (fun y16 =>
                bif (!y16) then
                  k (.inl (false, x.2.1, x.2.2.1, x.2.2.2.1, x.2.2.2.2.1, x.2.2.2.2.2.1, x.2.2.2.2.2.2.1, x.2.2.2.2.2.2.2.1, x.2.2.2.2.2.2.2.2.1, x.2.2.2.2.2.2.2.2.2.1, x.2.2.2.2.2.2.2.2.2.2.1, x.2.2.2.2.2.2.2.2.2.2.2.1, x.2.2.2.2.2.2.2.2.2.2.2.2.1, x.2.2.2.2.2.2.2.2.2.2.2.2.2.1, x.2.2.2.2.2.2.2.2.2.2.2.2.2.2.1, x.2.2.2.2.2.2.2.2.2.2.2.2.2.2.2.1, x.2.2.2.2.2.2.2.2.2.2.2.2.2.2.2.2.1, x.2.2.2.2.2.2.2.2.2.2.2.2.2.2.2.2.2.1, x.2.2.2.2.2.2.2.2.2.2.2.2.2.2.2.2.2.2.1, x.2.2.2.2.2.2.2.2.2.2.2.2.2.2.2.2.2.2.2.1, x.2.2.2.2.2.2.2.2.2.2.2.2.2.2.2.2.2.2.2.2.1, x.2.2.2.2.2.2.2.2.2.2.2.2.2.2.2.2.2.2.2.2.2.1, x.2.2.2.2.2.2.2.2.2.2.2.2.2.2.2.2.2.2.2.2.2.2.1, x.2.2.2.2.2.2.2.2.2.2.2.2.2.2.2.2.2.2.2.2.2.2.2.1, x.2.2.2.2.2.2.2.2.2.2.2.2.2.2.2.2.2.2.2.2.2.2.2.2.1, x.2.2.2.2.2.2.2.2.2.2.2.2.2.2.2.2.2.2.2.2.2.2.2.2.2.1, x.2.2.2.2.2.2.2.2.2.2.2.2.2.2.2.2.2.2.2.2.2.2.2.2.2.2.1, x.2.2.2.2.2.2.2.2.2.2.2.2.2.2.2.2.2.2.2.2.2.2.2.2.2.2.2.1, x.2.2.2.2.2.2.2.2.2.2.2.2.2.2.2.2.2.2.2.2.2.2.2.2.2.2.2.2.1, x.2.2.2.2.2.2.2.2.2.2.2.2.2.2.2.2.2.2.2.2.2.2.2.2.2.2.2.2.2.1, x.2.2.2.2.2.2.2.2.2.2.2.2.2.2.2.2.2.2.2.2.2.2.2.2.2.2.2.2.2.2.1, x.2.2.2.2.2.2.2.2.2.2.2.2.2.2.2.2.2.2.2.2.2.2.2.2.2.2.2.2.2.2.2.1, x.2.2.2.2.2.2.2.2.2.2.2.2.2.2.2.2.2.2.2.2.2.2.2.2.2.2.2.2.2.2.2.2.1, y15.2.1, y15.2.2, x.2.2.2.2.2.2.2.2.2.2.2.2.2.2.2.2.2.2.2.2.2.2.2.2.2.2.2.2.2.2.2.2.2.2.2.1, x.2.2.2.2.2.2.2.2.2.2.2.2.2.2.2.2.2.2.2.2.2.2.2.2.2.2.2.2.2.2.2.2.2.2.2.2))
                else
                  bif (!(x.2.2.1 == x.2.1)) then
                    k (.inl (false, x.2.1, x.2.2.1, x.2.2.2.1, x.2.2.2.2.1, x.2.2.2.2.2.1, x.2.2.2.2.2.2.1, x.2.2.2.2.2.2.2.1, x.2.2.2.2.2.2.2.2.1, x.2.2.2.2.2.2.2.2.2.1, x.2.2.2.2.2.2.2.2.2.2.1, x.2.2.2.2.2.2.2.2.2.2.2.1, x.2.2.2.2.2.2.2.2.2.2.2.2.1, x.2.2.2.2.2.2.2.2.2.2.2.2.2.1, x.2.2.2.2.2.2.2.2.2.2.2.2.2.2.1, x.2.2.2.2.2.2.2.2.2.2.2.2.2.2.2.1, x.2.2.2.2.2.2.2.2.2.2.2.2.2.2.2.2.1, x.2.2.2.2.2.2.2.2.2.2.2.2.2.2.2.2.2.1, x.2.2.2.2.2.2.2.2.2.2.2.2.2.2.2.2.2.2.1, x.2.2.2.2.2.2.2.2.2.2.2.2.2.2.2.2.2.2.2.1, x.2.2.2.2.2.2.2.2.2.2.2.2.2.2.2.2.2.2.2.2.1, x.2.2.2.2.2.2.2.2.2.2.2.2.2.2.2.2.2.2.2.2.2.1, x.2.2.2.2.2.2.2.2.2.2.2.2.2.2.2.2.2.2.2.2.2.2.1, x.2.2.2.2.2.2.2.2.2.2.2.2.2.2.2.2.2.2.2.2.2.2.2.1, x.2.2.2.2.2.2.2.2.2.2.2.2.2.2.2.2.2.2.2.2.2.2.2.2.1, x.2.2.2.2.2.2.2.2.2.2.2.2.2.2.2.2.2.2.2.2.2.2.2.2.2.1, x.2.2.2.2.2.2.2.2.2.2.2.2.2.2.2.2.2.2.2.2.2.2.2.2.2.2.1, x.2.2.2.2.2.2.2.2.2.2.2.2.2.2.2.2.2.2.2.2.2.2.2.2.2.2.2.1, x.2.2.2.2.2.2.2.2.2.2.2.2.2.2.2.2.2.2.2.2.2.2.2.2.2.2.2.2.1, x.2.2.2.2.2.2.2.2.2.2.2.2.2.2.2.2.2.2.2.2.2.2.2.2.2.2.2.2.2.1, x.2.2.2.2.2.2.2.2.2.2.2.2.2.2.2.2.2.2.2.2.2.2.2.2.2.2.2.2.2.2.1, x.2.2.2.2.2.2.2.2.2.2.2.2.2.2.2.2.2.2.2.2.2.2.2.2.2.2.2.2.2.2.2.1, x.2.2.2.2.2.2.2.2.2.2.2.2.2.2.2.2.2.2.2.2.2.2.2.2.2.2.2.2.2.2.2.2.1, y15.2.1, y15.2.2, x.2.2.2.2.2.2.2.2.2.2.2.2.2.2.2.2.2.2.2.2.2.2.2.2.2.2.2.2.2.2.2.2.2.2.2.1, x.2.2.2.2.2.2.2.2.2.2.2.2.2.2.2.2.2.2.2.2.2.2.2.2.2.2.2.2.2.2.2.2.2.2.2.2))
                  else
                    laws_FnExactReadRange_j5000019 (x.1, x.2.1, x.2.2.2.1, x.2.2.2.2.1, x.2.2.2.2.2.1, x.2.2.2.2.2.2.1, x.2.2.2.2.2.2.2.1, x.2.2.2.2.2.2.2.2.1, x.2.2.2.2.2.2.2.2.2.1, x.2.2.2.2.2.2.2.2.2.2.1, x.2.2.2.2.2.2.2.2.2.2.2.1, x.2.2.2.2.2.2.2.2.2.2.2.2.1, x.2.2.2.2.2.2.2.2.2.2.2.2.2.1, x.2.2.2.2.2.2.2.2.2.2.2.2.2.2.1, x.2.2.2.2.2.2.2.2.2.2.2.2.2.2.2.1, x.2.2.2.2.2.2.2.2.2.2.2.2.2.2.2.2.1, x.2.2.2.2.2.2.2.2.2.2.2.2.2.2.2.2.2.1, x.2.2.2.2.2.2.2.2.2.2.2.2.2.2.2.2.2.2.1, x.2.2.2.2.2.2.2.2.2.2.2.2.2.2.2.2.2.2.2.2.2.2.2.2.2.1, x.2.2.2.2.2.2.2.2.2.2.2.2.2.2.2.2.2.2.2.2.2.2.2.2.2.2.1, x.2.2.2.2.2.2.2.2.2.2.2.2.2.2.2.2.2.2.2.2.2.2.2.2.2.2.2.1, x.2.2.2.2.2.2.2.2.2.2.2.2.2.2.2.2.2.2.2.2.2.2.2.2.2.2.2.2.1, x.2.2.2.2.2.2.2.2.2.2.2.2.2.2.2.2.2.2.2.2.2.2.2.2.2.2.2.2.2.1, x.2.2.2.2.2.2.2.2.2.2.2.2.2.2.2.2.2.2.2.2.2.2.2.2.2.2.2.2.2.2.1, x.2.2.2.2.2.2.2.2.2.2.2.2.2.2.2.2.2.2.2.2.2.2.2.2.2.2.2.2.2.2.2.1, x.2.2.2.2.2.2.2.2.2.2.2.2.2.2.2.2.2.2.2.2.2.2.2.2.2.2.2.2.2.2.2.2.1, x.2.2.2.2.2.2.2.2.2.2.2.2.2.2.2.2.2.2.2.2.2.2.2.2.2.2.2.2.2.2.2.2.2.2.2.1, x.2.2.2.2.2.2.2.2.2.2.2.2.2.2.2.2.2.2.2.2.2.2.2.2.2.2.2.2.2.2.2.2.2.2.2.2) (Sum.elim (fun z17 =>
                      k (.inr (.inl (z17.1, z17.2.1, z17.2.2.1, z17.2.2.2.1, z17.2.2.2.2.1, z17.2.2.2.2.2.1, z17.2.2.2.2.2.2.1, z17.2.2.2.2.2.2.2.1, z17.2.2.2.2.2.2.2.2.1, z17.2.2.2.2.2.2.2.2.2.1, z17.2.2.2.2.2.2.2.2.2.2.1, z17.2.2.2.2.2.2.2.2.2.2.2.1, z17.2.2.2.2.2.2.2.2.2.2.2.2.1, z17.2.2.2.2.2.2.2.2.2.2.2.2.2.1, z17.2.2.2.2.2.2.2.2.2.2.2.2.2.2.1, z17.2.2.2.2.2.2.2.2.2.2.2.2.2.2.2.1, z17.2.2.2.2.2.2.2.2.2.2.2.2.2.2.2.2.1, z17.2.2.2.2.2.2.2.2.2.2.2.2.2.2.2.2.2.1, z17.2.2.2.2.2.2.2.2.2.2.2.2.2.2.2.2.2.2.1, z17.2.2.2.2.2.2.2.2.2.2.2.2.2.2.2.2.2.2.2.1, z17.2.2.2.2.2.2.2.2.2.2.2.2.2.2.2.2.2.2.2.2.1, z17.2.2.2.2.2.2.2.2.2.2.2.2.2.2.2.2.2.2.2.2.2.1, z17.2.2.2.2.2.2.2.2.2.2.2.2.2.2.2.2.2.2.2.2.2.2.1, z17.2.2.2.2.2.2.2.2.2.2.2.2.2.2.2.2.2.2.2.2.2.2.2.1, z17.2.2.2.2.2.2.2.2.2.2.2.2.2.2.2.2.2.2.2.2.2.2.2.2.1, z17.2.2.2.2.2.2.2.2.2.2.2.2.2.2.2.2.2.2.2.2.2.2.2.2.2.1, z17.2.2.2.2.2.2.2.2.2.2.2.2.2.2.2.2.2.2.2.2.2.2.2.2.2.2.1, z17.2.2.2.2.2.2.2.2.2.2.2.2.2.2.2.2.2.2.2.2.2.2.2.2.2.2.2)))) (fun z18 =>
                      k (.inr (.inr (z18.1, z18.2.1, z18.2.2.1, z18.2.2.2.1, z18.2.2.2.2.1, z18.2.2.2.2.2.1, z18.2.2.2.2.2.2.1, z18.2.2.2.2.2.2.2.1, z18.2.2.2.2.2.2.2.2)))))))))

theorem laws_FnExactReadRange_jp5000013 (x : (Bool × Bool × Bool × Int × Int × Int × Int × (List dRange) × (List dWrite) × Bool × ByteArray × ByteArray × ByteArray × Int × Int × Int × Int × Bool × ByteArray × Int × Int × Int × Int × Bool × ByteArray × Int × Int × Int × Int × Bool × ByteArray × (List dRange) × (List dWrite) × (List dRange) × (List dWrite) × (List dRange) × (List dWrite))) : Par (laws_FnExactReadRange_j5000013 x) := by
  unfold laws_FnExactReadRange_j5000013
  exact ((laws_toTxn_p (x.2.2.2.1, (x.2.2.2.2.1, (x.2.2.2.2.2.1, (x.2.2.2.2.2.2.1, (x.2.2.2.2.2.2.2.1, (x.2.2.2.2.2.2.2.2.1, (x.2.2.2.2.2.2.2.2.2.1, x.2.2.2.2.2.2.2.2.2.2.1)))))))).bind fun y13 => ((laws_eqTxn_p (x.2.2.2.2.2.2.2.2.2.2.2.2.2.2.2.2.2.2.2.1, (x.2.2.2.2.2.2.2.2.2.2.2.2.2.2.2.2.2.2.2.2.1, (x.2.2.2.2.2.2.2.2.2.2.2.2.2.2.2.2.2.2.2.2.2.1, (x.2.2.2.2.2.2.2.2.2.2.2.2.2.2.2.2.2.2.2.2.2.2.1, (x.2.2.2.2.2.2.2.2.2.2.2.2.2.2.2.2.2.2.2.2.2.2.2.2.2.2.2.2.2.2.2.2.2.1, (x.2.2.2.2.2.2.2.2.2.2.2.2.2.2.2.2.2.2.2.2.2.2.2.2.2.2.2.2.2.2.2.2.2.2.1, (x.2.2.2.2.2.2.2.2.2.2.2.2.2.2.2.2.2.2.2.2.2.2.2.1, x.2.2.2.2.2.2.2.2.2.2.2.2.2.2.2.2.2.2.2.2.2.2.2.2.1))))))) (y13.1, (y13.2.1, (y13.2.2.1, (y13.2.2.2.1, (y13.2.2.2.2.2.2.1, (y13.2.2.2.2.2.2.2, (y13.2.2.2.2.1, y13.2.2.2.2.2.1)))))))).bind fun y14 => (par_bif (par_ret _) ((laws_markTxn_va_p x.2.2.2.2.2.2.2.2.2.2.2.2.2.2.2.2.2.2.2.1 x.2.2.2.2.2.2.2.2.2.2.2.2.2.2.2.2.2.2.2.2.1 x.2.2.2.2.2.2.2.2.2.2.2.2.2.2.2.2.2.2.2.2.2.1 x.2.2.2.2.2.2.2.2.2.2.2.2.2.2.2.2.2.2.2.2.2.2.1 x.2.2.2.2.2.2.2.2.2.2.2.2.2.2.2.2.2.2.2.2.2.2.2.1 x.2.2.2.2.2.2.2.2.2.2.2.2.2.2.2.2.2.2.2.2.2.2.2.2.1 (1 : Int) x.2.2.2.2.2.2.2.2.2.2.2.2.2.2.2.2.2.2.2.2.2.2.2.2.2.2.2.2.2.2.2.2.2.1 x.2.2.2.2.2.2.2.2.2.2.2.2.2.2.2.2.2.2.2.2.2.2.2.2.2.2.2.2.2.2.2.2.2.2.1).bind fun y15 => (par_bif (par_ret _) ((laws_eqTxn_p (x.2.2.2.2.2.2.2.2.2.2.2.2.2.2.2.2.2.2.2.2.2.2.2.2.2.1, (x.2.2.2.2.2.2.2.2.2.2.2.2.2.2.2.2.2.2.2.2.2.2.2.2.2.2.1, (x.2.2.2.2.2.2.2.2.2.2.2.2.2.2.2.2.2.2.2.2.2.2.2.2.2.2.2.1, (x.2.2.2.2.2.2.2.2.2.2.2.2.2.2.2.2.2.2.2.2.2.2.2.2.2.2.2.2.1, (x.2.2.2.2.2.2.2.2.2.2.2.2.2.2.2.2.2.2.2.2.2.2.2.2.2.2.2.2.2.2.2.2.2.2.2.1, (x.2.2.2.2.2.2.2.2.2.2.2.2.2.2.2.2.2.2.2.2.2.2.2.2.2.2.2.2.2.2.2.2.2.2.2.2, (x.2.2.2.2.2.2.2.2.2.2.2.2.2.2.2.2.2.2.2.2.2.2.2.2.2.2.2.2.2.1, x.2.2.2.2.2.2.2.2.2.2.2.2.2.2.2.2.2.2.2.2.2.2.2.2.2.2.2.2.2.2.1))))))) (x.2.2.2.2.2.2.2.2.2.2.2.2.2.1, (x.2.2.2.2.2.2.2.2.2.2.2.2.2.2.1, (x.2.2.2.2.2.2.2.2.2.2.2.2.2.2.2.1, (x.2.2.2.2.2.2.2.2.2.2.2.2.2.2.2.2.1, (x.2.2.2.2.2.2.2.2.2.2.2.2.2.2.2.2.2.2.2.2.2.2.2.2.2.2.2.2.2.2.2.1, (x.2.2.2.2.2.2.2.2.2.2.2.2.2.2.2.2.2.2.2.2.2.2.2.2.2.2.2.2.2.2.2.2.1, (x.2.2.2.2.2.2.2.2.2.2.2.2.2.2.2.2.2.1, x.2.2.2.2.2.2.2.2.2.2.2.2.2.2.2.2.2.2.1)))))))).bind fun y16 => (par_bif (par_ret _) (par_bif (par_ret _) ((laws_FnExactReadRange_jp5000019 (x.1, x.2.1, x.2.2.2.1, x.2.2.2.2.1, x.2.2.2.2.2.1, x.2.2.2.2.2.2.1, x.2.2.2.2.2.2.2.1, x.2.2.2.2.2.2.2.2.1, x.2.2.2.2.2.2.2.2.2.1, x.2.2.2.2.2.2.2.2.2.2.1, x.2.2.2.2.2.2.2.2.2.2.2.1, x.2.2.2.2.2.2.2.2.2.2.2.2.1, x.2.2.2.2.2.2.2.2.2.2.2.2.2.1, x.2.2.2.2.2.2.2.2.2.2.2.2.2.2.1, x.2.2.2.2.2.2.2.2.2.2.2.2.2.2.2.1, x.2.2.2.2.2.2.2.2.2.2.2.2.2.2.2.2.1, x.2.2.2.2.2.2.2.2.2.2.2.2.2.2.2.2.2.1, x.2.2.2.2.2.2.2.2.2.2.2.2.2.2.2.2.2.2.1, x.2.2.2.2.2.2.2.2.2.2.2.2.2.2.2.2.2.2.2.2.2.2.2.2.2.1, x.2.2.2.2.2.2.2.2.2.2.2.2.2.2.2.2.2.2.2.2.2.2.2.2.2.2.1, x.2.2.2.2.2.2.2.2.2.2.2.2.2.2.2.2.2.2.2.2.2.2.2.2.2.2.2.1, x.2.2.2.2.2.2.2.2.2.2.2.2.2.2.2.2.2.2.2.2.2.2.2.2.2.2.2.2.1, x.2.2.2.2.2.2.2.2.2.2.2.2.2.2.2.2.2.2.2.2.2.2.2.2.2.2.2.2.2.1, x.2.2.2.2.2.2.2.2.2.2.2.2.2.2.2.2.2.2.2.2.2.2.2.2.2.2.2.2.2.2.1, x.2.2.2.2.2.2.2.2.2.2.2.2.2.2.2.2.2.2.2.2.2.2.2.2.2.2.2.2.2.2.2.1, x.2.2.2.2.2.2.2.2.2.2.2.2.2.2.2.2.2.2.2.2.2.2.2.2.2.2.2.2.2.2.2.2.1, x.2.2.2.2.2.2.2.2.2.2.2.2.2.2.2.2.2.2.2.2.2.2.2.2.2.2.2.2.2.2.2.2.2.2.2.1, x.2.2.2.2.2.2.2.2.2.2.2.2.2.2.2.2.2.2.2.2.2.2.2.2.2.2.2.2.2.2.2.2.2.2.2.2)).bind2 (fun z17 => (par_ret _)) (fun z18 => (par_ret _)))))))))))

def laws_FnExactReadRange_d (a0 : dTxn) (a1 : dRange) (k : Bool → Option Res) : Option Res :=
  laws_szTxn_k a0 (1048576 : Int) (fun y1 =>
    bif (decide (y1 < (0 : Int))) then
      k true
    else
      laws_szRange_k a1 y1 (fun y2 =>
        bif (decide (y2 < (0 : Int))) then
          k true
        else
          laws_toTxn_k a0 (fun y3 =>
            laws_toRange_k a1 (fun y4 =>
              spec_ReadRange_k (y3.1, (y3.2.1, (y3.2.2.1, (y3.2.2.2.1, (y3.2.2.2.2.2.2.1, (y3.2.2.2.2.2.2.2, (y3.2.2.2.2.1, y3.2.2.2.2.2.1))))))) y4 (fun y5 =>
                laws_toTxn_k a0 (fun y6 =>
                  laws_toRange_k a1 (fun y7 =>
                    impl_ReadRange_k (y6.1, (y6.2.1, (y6.2.2.1, (y6.2.2.2.1, (y6.2.2.2.2.2.2.1, (y6.2.2.2.2.2.2.2, (y6.2.2.2.2.1, y6.2.2.2.2.2.1))))))) y7 (fun y8 =>
                      laws_eqTxn_k (y8.1, (y8.2.1, (y8.2.2.1, (y8.2.2.2.1, (y8.2.2.2.2.2.2.2.1, (y8.2.2.2.2.2.2.2.2, (y8.2.2.2.2.1, y8.2.2.2.2.2.1))))))) (y5.1, (y5.2.1, (y5.2.2.1, (y5.2.2.2.1, (y5.2.2.2.2.2.2.2.1, (y5.2.2.2.2.2.2.2.2, (y5.2.2.2.2.1, y5.2.2.2.2.2.1))))))) (fun y9 =>
                        bif (!y9) then
                          k false
                        else
                          bif (!(y8.2.2.2.2.2.2.1 == y5.2.2.2.2.2.2.1)) then
                            k false
                          else
                            laws_FnExactReadRange_j5000013 (false, y5.2.2.2.2.2.2.1, y8.2.2.2.2.2.2.1, a0.1, a0.2.1, a0.2.2.1, a0.2.2.2.1, a0.2.2.2.2.1, a0.2.2.2.2.2.1, a0.2.2.2.2.2.2.1, a0.2.2.2.2.2.2.2, a1.1, a1.2, y5.1, y5.2.1, y5.2.2.1, y5.2.2.2.1, y5.2.2.2.2.1, y5.2.2.2.2.2.1, y6.1, y6.2.1, y6.2.2.1, y6.2.2.2.1, y6.2.2.2.2.1, y6.2.2.2.2.2.1, y8.1, y8.2.1, y8.2.2.1, y8.2.2.2.1, y8.2.2.2.2.1, y8.2.2.2.2.2.1, y5.2.2.2.2.2.2.2.1, y5.2.2.2.2.2.2.2.2, y6.2.2.2.2.2.2.1, y6.2.2.2.2.2.2.2, y8.2.2.2.2.2.2.2.1, y8.2.2.2.2.2.2.2.2) (Sum.elim (fun z10 =>
                              k z10.1) (Sum.elim (fun z11 =>
                              k z11.1) (fun z12 =>
                              k z12.1))))))))))))

theorem laws_FnExactReadRange_h : ∃ g : dTxn → dRange → (Bool → Option Res) → Option Res, g = laws_FnExactReadRange_d := ⟨_, rfl⟩
def laws_FnExactReadRange_k : dTxn → dRange → (Bool → Option Res) → Option Res := Classical.choose laws_FnExactReadRange_h
theorem laws_FnExactReadRange_e : laws_FnExactReadRange_k = laws_FnExactReadRange_d := Classical.choose_spec laws_FnExactReadRange_h

theorem laws_FnExactReadRange_p (a0 : dTxn) (a1 : dRange) : Par (laws_FnExactReadRange_k a0 a1) := by
  rw [laws_FnExactReadRange_e]
  unfold laws_FnExactReadRange_d
  exact ((laws_szTxn_p a0 (1048576 : Int)).bind fun y1 => (par_bif (par_ret _) ((laws_szRange_p a1 y1).bind fun y2 => (par_bif (par_ret _) ((laws_toTxn_p a0).bind fun y3 => ((laws_toRange_p a1).bind fun y4 => ((spec_ReadRange_p (y3.1, (y3.2.1, (y3.2.2.1, (y3.2.2.2.1, (y3.2.2.2.2.2.2.1, (y3.2.2.2.2.2.2.2, (y3.2.2.2.2.1, y3.2.2.2.2.2.1))))))) y4).bind fun y5 => ((laws_toTxn_p a0).bind fun y6 => ((laws_toRange_p a1).bind fun y7 => ((impl_ReadRange_p (y6.1, (y6.2.1, (y6.2.2.1, (y6.2.2.2.1, (y6.2.2.2.2.2.2.1, (y6.2.2.2.2.2.2.2, (y6.2.2.2.2.1, y6.2.2.2.2.2.1))))))) y7).bind fun y8 => ((laws_eqTxn_p (y8.1, (y8.2.1, (y8.2.2.1, (y8.2.2.2.1, (y8.2.2.2.2.2.2.2.1, (y8.2.2.2.2.2.2.2.2, (y8.2.2.2.2.1, y8.2.2.2.2.2.1))))))) (y5.1, (y5.2.1, (y5.2.2.1, (y5.2.2.2.1, (y5.2.2.2.2.2.2.2.1, (y5.2.2.2.2.2.2.2.2, (y5.2.2.2.2.1, y5.2.2.2.2.2.1)))))))).bind fun y9 => (par_bif (par_ret _) (par_bif (par_ret _) ((laws_FnExactReadRange_jp5000013 (false, y5.2.2.2.2.2.2.1, y8.2.2.2.2.2.2.1, a0.1, a0.2.1, a0.2.2.1, a0.2.2.2.1, a0.2.2.2.2.1, a0.2.2.2.2.2.1, a0.2.2.2.2.2.2.1, a0.2.2.2.2.2.2.2, a1.1, a1.2, y5.1, y5.2.1, y5.2.2.1, y5.2.2.2.1, y5.2.2.2.2.1, y5.2.2.2.2.2.1, y6.1, y6.2.1, y6.2.2.1, y6.2.2.2.1, y6.2.2.2.2.1, y6.2.2.2.2.2.1, y8.1, y8.2.1, y8.2.2.1, y8.2.2.2.1, y8.2.2.2.2.1, y8.2.2.2.2.2.1, y5.2.2.2.2.2.2.2.1, y5.2.2.2.2.2.2.2.2, y6.2.2.2.2.2.2.1, y6.2.2.2.2.2.2.2, y8.2.2.2.2.2.2.2.1, y8.2.2.2.2.2.2.2.2)).bind2 (fun z10 => (par_ret _)) (fun q => par_elim (fun z11 => (par_ret _)) (fun z12 => (par_ret _)) q)))))))))))))))

def laws_szRange_g (args : List AV) (st : St) (k : K1) : Option Res :=
  onPats [.agg [.str, .str], .int .i64] [] args st (fun p q => laws_szRange_k (p.1.1, p.1.2.1) p.2.1 (fun (y : Int) => k (.int .i64 y) []))
    (none)

theorem laws_szRange_q (a0 : ByteArray) (a1 : ByteArray) (a2 : Int) : Par (fun k : AV × St → Option Res => laws_szRange_g [.agg [.str a0, .str a1], .int .i64 a2] [] (fun v s => k (v, s))) :=
  (laws_szRange_p (a0, a1) a2).bind (H := fun (y : Int) (k : AV × St → Option Res) => (fun (y : Int) => k ((.int .i64 y : AV), ([] : St))) y) (fun y => par_ret _)

def laws_szRangeS_g (args : List AV) (st : St) (k : K1) : Option Res :=
  onPats [.lst tRange, .int .i64] [] args st (fun p q => laws_szRangeS_k p.1 p.2.1 (fun (y : Int) => k (.int .i64 y) []))
    (none)

theorem laws_szRangeS_q (a0 : (List dRange)) (a1 : Int) : Par (fun k : AV × St → Option Res => laws_szRangeS_g [.lst tRange a0, .int .i64 a1] [] (fun v s => k (v, s))) :=
  (laws_szRangeS_p a0 a1).bind (H := fun (y : Int) (k : AV × St → Option Res) => (fun (y : Int) => k ((.int .i64 y : AV), ([] : St))) y) (fun y => par_ret _)

def laws_szWrite_g (args : List AV) (st : St) (k : K1) : Option Res :=
  onPats [.agg [.str, .str, .bool], .int .i64] [] args st (fun p q => laws_szWrite_k (p.1.1, (p.1.2.1, p.1.2.2.1)) p.2.1 (fun (y : Int) => k (.int .i64 y) []))
    (none)

theorem laws_szWrite_q (a0 : ByteArray) (a1 : ByteArray) (a2 : Bool) (a3 : Int) : Par (fun k : AV × St → Option Res => laws_szWrite_g [.agg [.str a0, .str a1, .bool a2], .int .i64 a3] [] (fun v s => k (v, s))) :=
  (laws_szWrite_p (a0, (a1, a2)) a3).bind (H := fun (y : Int) (k : AV × St → Option Res) => (fun (y : Int) => k ((.int .i64 y : AV), ([] : St))) y) (fun y => par_ret _)

def laws_szWriteS_g (args : List AV) (st : St) (k : K1) : Option Res :=
  onPats [.lst tWrite, .int .i64] [] args st (fun p q => laws_szWriteS_k p.1 p.2.1 (fun (y : Int) => k (.int .i64 y) []))
    (none)

theorem laws_szWriteS_q (a0 : (List dWrite)) (a1 : Int) : Par (fun k : AV × St → Option Res => laws_szWriteS_g [.lst tWrite a0, .int .i64 a1] [] (fun v s => k (v, s))) :=
  (laws_szWriteS_p a0 a1).bind (H := fun (y : Int) (k : AV × St → Option Res) => (fun (y : Int) => k ((.int .i64 y : AV), ([] : St))) y) (fun y => par_ret _)

def laws_szTxn_g (args : List AV) (st : St) (k : K1) : Option Res :=
  onPats [.agg [.int .i64, .int .i64, .int .i64, .int .i64, .lst tRange, .lst tWrite, .bool, .str], .int .i64] [] args st (fun p q => laws_szTxn_k (p.1.1, (p.1.2.1, (p.1.2.2.1, (p.1.2.2.2.1, (p.1.2.2.2.2.1, (p.1.2.2.2.2.2.1, (p.1.2.2.2.2.2.2.1, p.1.2.2.2.2.2.2.2.1))))))) p.2.1 (fun (y : Int) => k (.int .i64 y) []))
    (none)

theorem laws_szTxn_q (a0 : Int) (a1 : Int) (a2 : Int) (a3 : Int) (a4 : (List dRange)) (a5 : (List dWrite)) (a6 : Bool) (a7 : ByteArray) (a8 : Int) : Par (fun k : AV × St → Option Res => laws_szTxn_g [.agg [.int .i64 a0, .int .i64 a1, .int .i64 a2, .int .i64 a3, .lst tRange a4, .lst tWrite a5, .bool a6, .str a7], .int .i64 a8] [] (fun v s => k (v, s))) :=
  (laws_szTxn_p (a0, (a1, (a2, (a3, (a4, (a5, (a6, a7))))))) a8).bind (H := fun (y : Int) (k : AV × St → Option Res) => (fun (y : Int) => k ((.int .i64 y : AV), ([] : St))) y) (fun y => par_ret _)

def laws_toRange_g (args : List AV) (st : St) (k : K1) : Option Res :=
  onPats [.agg [.str, .str]] [] args st (fun p q => laws_toRange_k (p.1.1, p.1.2.1) (fun (y : (ByteArray × ByteArray)) => k (.agg [.str y.1, .str y.2]) []))
    (none)

theorem laws_toRange_q (a0 : ByteArray) (a1 : ByteArray) : Par (fun k : AV × St → Option Res => laws_toRange_g [.agg [.str a0, .str a1]] [] (fun v s => k (v, s))) :=
  (laws_toRange_p (a0, a1)).bind (H := fun (y : (ByteArray × ByteArray)) (k : AV × St → Option Res) => (fun (y : (ByteArray × ByteArray)) => k ((.agg [.str y.1, .str y.2] : AV), ([] : St))) y) (fun y => par_ret _)

def laws_toRangeS_g (args : List AV) (st : St) (k : K1) : Option Res :=
  onPats [.lst tRange] [] args st (fun p q => laws_toRangeS_k p.1 (fun (y : (List dRange)) => k (.own 0) [.arr tRange y]))
    (none)

theorem laws_toRangeS_q (a0 : (List dRange)) : Par (fun k : AV × St → Option Res => laws_toRangeS_g [.lst tRange a0] [] (fun v s => k (v, s))) :=
  (laws_toRangeS_p a0).bind (H := fun (y : (List dRange)) (k : AV × St → Option Res) => (fun (y : (List dRange)) => k ((.own 0 : AV), ([.arr tRange y] : St))) y) (fun y => par_ret _)

def laws_toWrite_g (args : List AV) (st : St) (k : K1) : Option Res :=
  onPats [.agg [.str, .str, .bool]] [] args st (fun p q => laws_toWrite_k (p.1.1, (p.1.2.1, p.1.2.2.1)) (fun (y : (ByteArray × ByteArray × Bool)) => k (.agg [.str y.1, .str y.2.1, .bool y.2.2]) []))
    (none)

theorem laws_toWrite_q (a0 : ByteArray) (a1 : ByteArray) (a2 : Bool) : Par (fun k : AV × St → Option Res => laws_toWrite_g [.agg [.str a0, .str a1, .bool a2]] [] (fun v s => k (v, s))) :=
  (laws_toWrite_p (a0, (a1, a2))).bind (H := fun (y : (ByteArray × ByteArray × Bool)) (k : AV × St → Option Res) => (fun (y : (ByteArray × ByteArray × Bool)) => k ((.agg [.str y.1, .str y.2.1, .bool y.2.2] : AV), ([] : St))) y) (fun y => par_ret _)

def laws_toWriteS_g (args : List AV) (st : St) (k : K1) : Option Res :=
  onPats [.lst tWrite] [] args st (fun p q => laws_toWriteS_k p.1 (fun (y : (List dWrite)) => k (.own 0) [.arr tWrite y]))
    (none)

theorem laws_toWriteS_q (a0 : (List dWrite)) : Par (fun k : AV × St → Option Res => laws_toWriteS_g [.lst tWrite a0] [] (fun v s => k (v, s))) :=
  (laws_toWriteS_p a0).bind (H := fun (y : (List dWrite)) (k : AV × St → Option Res) => (fun (y : (List dWrite)) => k ((.own 0 : AV), ([.arr tWrite y] : St))) y) (fun y => par_ret _)

def laws_toTxn_g (args : List AV) (st : St) (k : K1) : Option Res :=
  onPats [.agg [.int .i64, .int .i64, .int .i64, .int .i64, .lst tRange, .lst tWrite, .bool, .str]] [] args st (fun p q => laws_toTxn_k (p.1.1, (p.1.2.1, (p.1.2.2.1, (p.1.2.2.2.1, (p.1.2.2.2.2.1, (p.1.2.2.2.2.2.1, (p.1.2.2.2.2.2.2.1, p.1.2.2.2.2.2.2.2.1))))))) (fun (y : (Int × Int × Int × Int × Bool × ByteArray × (List dRange) × (List dWrite))) => k (.agg [.int .i64 y.1, .int .i64 y.2.1, .int .i64 y.2.2.1, .int .i64 y.2.2.2.1, .own 0, .own 1, .bool y.2.2.2.2.1, .str y.2.2.2.2.2.1]) [.arr tRange y.2.2.2.2.2.2.1, .arr tWrite y.2.2.2.2.2.2.2]))
    (none)

theorem laws_toTxn_q (a0 : Int) (a1 : Int) (a2 : Int) (a3 : Int) (a4 : (List dRange)) (a5 : (List dWrite)) (a6 : Bool) (a7 : ByteArray) : Par (fun k : AV × St → Option Res => laws_toTxn_g [.agg [.int .i64 a0, .int .i64 a1, .int .i64 a2, .int .i64 a3, .lst tRange a4, .lst tWrite a5, .bool a6, .str a7]] [] (fun v s => k (v, s))) :=
  (laws_toTxn_p (a0, (a1, (a2, (a3, (a4, (a5, (a6, a7)))))))).bind (H := fun (y : (Int × Int × Int × Int × Bool × ByteArray × (List dRange) × (List dWrite))) (k : AV × St → Option Res) => (fun (y : (Int × Int × Int × Int × Bool × ByteArray × (List dRange) × (List dWrite))) => k ((.agg [.int .i64 y.1, .int .i64 y.2.1, .int .i64 y.2.2.1, .int .i64 y.2.2.2.1, .own 0, .own 1, .bool y.2.2.2.2.1, .str y.2.2.2.2.2.1] : AV), ([.arr tRange y.2.2.2.2.2.2.1, .arr tWrite y.2.2.2.2.2.2.2] : St))) y) (fun y => par_ret _)

def spec_l07Copy_g (args : List AV) (st : St) (k : K1) : Option Res :=
  onPats [.agg [.int .i64, .int .i64, .int .i64, .int .i64, .lst tRange, .lst tWrite, .bool, .str]] [] args st (fun p q => spec_l07Copy_k (p.1.1, (p.1.2.1, (p.1.2.2.1, (p.1.2.2.2.1, (p.1.2.2.2.2.1, (p.1.2.2.2.2.2.1, (p.1.2.2.2.2.2.2.1, p.1.2.2.2.2.2.2.2.1))))))) (fun (y : (Int × Int × Int × Int × Bool × ByteArray × (List dRange) × (List dWrite))) => k (.agg [.int .i64 y.1, .int .i64 y.2.1, .int .i64 y.2.2.1, .int .i64 y.2.2.2.1, .own 0, .own 1, .bool y.2.2.2.2.1, .str y.2.2.2.2.2.1]) [.arr tRange y.2.2.2.2.2.2.1, .arr tWrite y.2.2.2.2.2.2.2]))
    (none)

theorem spec_l07Copy_q (a0 : Int) (a1 : Int) (a2 : Int) (a3 : Int) (a4 : (List dRange)) (a5 : (List dWrite)) (a6 : Bool) (a7 : ByteArray) : Par (fun k : AV × St → Option Res => spec_l07Copy_g [.agg [.int .i64 a0, .int .i64 a1, .int .i64 a2, .int .i64 a3, .lst tRange a4, .lst tWrite a5, .bool a6, .str a7]] [] (fun v s => k (v, s))) :=
  (spec_l07Copy_p (a0, (a1, (a2, (a3, (a4, (a5, (a6, a7)))))))).bind (H := fun (y : (Int × Int × Int × Int × Bool × ByteArray × (List dRange) × (List dWrite))) (k : AV × St → Option Res) => (fun (y : (Int × Int × Int × Int × Bool × ByteArray × (List dRange) × (List dWrite))) => k ((.agg [.int .i64 y.1, .int .i64 y.2.1, .int .i64 y.2.2.1, .int .i64 y.2.2.2.1, .own 0, .own 1, .bool y.2.2.2.2.1, .str y.2.2.2.2.2.1] : AV), ([.arr tRange y.2.2.2.2.2.2.1, .arr tWrite y.2.2.2.2.2.2.2] : St))) y) (fun y => par_ret _)

def spec_l01In_g (args : List AV) (st : St) (k : K1) : Option Res :=
  onPats [.int .i64, .int .i64, .int .i64] [] args st (fun p q => spec_l01In_k p.1 p.2.1 p.2.2.1 (fun (y : Bool) => k (.bool y) []))
    (none)

theorem spec_l01In_q (a0 : Int) (a1 : Int) (a2 : Int) : Par (fun k : AV × St → Option Res => spec_l01In_g [.int .i64 a0, .int .i64 a1, .int .i64 a2] [] (fun v s => k (v, s))) :=
  (spec_l01In_p a0 a1 a2).bind (H := fun (y : Bool) (k : AV × St → Option Res) => (fun (y : Bool) => k ((.bool y : AV), ([] : St))) y) (fun y => par_ret _)

def spec_KeyOk_g (args : List AV) (st : St) (k : K1) : Option Res :=
  onPats [.str] [] args st (fun p q => spec_KeyOk_k p.1 (fun (y : Bool) => k (.bool y) []))
    (none)

theorem spec_KeyOk_q (a0 : ByteArray) : Par (fun k : AV × St → Option Res => spec_KeyOk_g [.str a0] [] (fun v s => k (v, s))) :=
  (spec_KeyOk_p a0).bind (H := fun (y : Bool) (k : AV × St → Option Res) => (fun (y : Bool) => k ((.bool y : AV), ([] : St))) y) (fun y => par_ret _)

def spec_WriteOk_g (args : List AV) (st : St) (k : K1) : Option Res :=
  onPats [.agg [.str, .str, .bool]] [] args st (fun p q => spec_WriteOk_k (p.1.1, (p.1.2.1, p.1.2.2.1)) (fun (y : Bool) => k (.bool y) []))
    (none)

theorem spec_WriteOk_q (a0 : ByteArray) (a1 : ByteArray) (a2 : Bool) : Par (fun k : AV × St → Option Res => spec_WriteOk_g [.agg [.str a0, .str a1, .bool a2]] [] (fun v s => k (v, s))) :=
  (spec_WriteOk_p (a0, (a1, a2))).bind (H := fun (y : Bool) (k : AV × St → Option Res) => (fun (y : Bool) => k ((.bool y : AV), ([] : St))) y) (fun y => par_ret _)

def spec_WritesOk_g (args : List AV) (st : St) (k : K1) : Option Res :=
  onPats [.lst tWrite] [] args st (fun p q => spec_WritesOk_k p.1 (fun (y : Bool) => k (.bool y) []))
    (none)

theorem spec_WritesOk_q (a0 : (List dWrite)) : Par (fun k : AV × St → Option Res => spec_WritesOk_g [.lst tWrite a0] [] (fun v s => k (v, s))) :=
  (spec_WritesOk_p a0).bind (H := fun (y : Bool) (k : AV × St → Option Res) => (fun (y : Bool) => k ((.bool y : AV), ([] : St))) y) (fun y => par_ret _)

def spec_RangeOk_g (args : List AV) (st : St) (k : K1) : Option Res :=
  onPats [.agg [.str, .str]] [] args st (fun p q => spec_RangeOk_k (p.1.1, p.1.2.1) (fun (y : Bool) => k (.bool y) []))
    (none)

theorem spec_RangeOk_q (a0 : ByteArray) (a1 : ByteArray) : Par (fun k : AV × St → Option Res => spec_RangeOk_g [.agg [.str a0, .str a1]] [] (fun v s => k (v, s))) :=
  (spec_RangeOk_p (a0, a1)).bind (H := fun (y : Bool) (k : AV × St → Option Res) => (fun (y : Bool) => k ((.bool y : AV), ([] : St))) y) (fun y => par_ret _)

def spec_TxnOk_g (args : List AV) (st : St) (k : K1) : Option Res :=
  onPats [.agg [.int .i64, .int .i64, .int .i64, .int .i64, .lst tRange, .lst tWrite, .bool, .str]] [] args st (fun p q => spec_TxnOk_k (p.1.1, (p.1.2.1, (p.1.2.2.1, (p.1.2.2.2.1, (p.1.2.2.2.2.1, (p.1.2.2.2.2.2.1, (p.1.2.2.2.2.2.2.1, p.1.2.2.2.2.2.2.2.1))))))) (fun (y : Bool) => k (.bool y) []))
    (none)

theorem spec_TxnOk_q (a0 : Int) (a1 : Int) (a2 : Int) (a3 : Int) (a4 : (List dRange)) (a5 : (List dWrite)) (a6 : Bool) (a7 : ByteArray) : Par (fun k : AV × St → Option Res => spec_TxnOk_g [.agg [.int .i64 a0, .int .i64 a1, .int .i64 a2, .int .i64 a3, .lst tRange a4, .lst tWrite a5, .bool a6, .str a7]] [] (fun v s => k (v, s))) :=
  (spec_TxnOk_p (a0, (a1, (a2, (a3, (a4, (a5, (a6, a7)))))))).bind (H := fun (y : Bool) (k : AV × St → Option Res) => (fun (y : Bool) => k ((.bool y : AV), ([] : St))) y) (fun y => par_ret _)

def spec_ReadRange_g (args : List AV) (st : St) (k : K1) : Option Res :=
  onPats [.agg [.int .i64, .int .i64, .int .i64, .int .i64, .lst tRange, .lst tWrite, .bool, .str], .agg [.str, .str]] [] args st (fun p q => spec_ReadRange_k (p.1.1, (p.1.2.1, (p.1.2.2.1, (p.1.2.2.2.1, (p.1.2.2.2.2.1, (p.1.2.2.2.2.2.1, (p.1.2.2.2.2.2.2.1, p.1.2.2.2.2.2.2.2.1))))))) (p.2.1.1, p.2.1.2.1) (fun (y : (Int × Int × Int × Int × Bool × ByteArray × Bool × (List dRange) × (List dWrite))) => k (.tup [.agg [.int .i64 y.1, .int .i64 y.2.1, .int .i64 y.2.2.1, .int .i64 y.2.2.2.1, .own 0, .own 1, .bool y.2.2.2.2.1, .str y.2.2.2.2.2.1], .bool y.2.2.2.2.2.2.1]) [.arr tRange y.2.2.2.2.2.2.2.1, .arr tWrite y.2.2.2.2.2.2.2.2]))
    (none)

theorem spec_ReadRange_q (a0 : Int) (a1 : Int) (a2 : Int) (a3 : Int) (a4 : (List dRange)) (a5 : (List dWrite)) (a6 : Bool) (a7 : ByteArray) (a8 : ByteArray) (a9 : ByteArray) : Par (fun k : AV × St → Option Res => spec_ReadRange_g [.agg [.int .i64 a0, .int .i64 a1, .int .i64 a2, .int .i64 a3, .lst tRange a4, .lst tWrite a5, .bool a6, .str a7], .agg [.str a8, .str a9]] [] (fun v s => k (v, s))) :=
  (spec_ReadRange_p (a0, (a1, (a2, (a3, (a4, (a5, (a6, a7))))))) (a8, a9)).bind (H := fun (y : (Int × Int × Int × Int × Bool × ByteArray × Bool × (List dRange) × (List dWrite))) (k : AV × St → Option Res) => (fun (y : (Int × Int × Int × Int × Bool × ByteArray × Bool × (List dRange) × (List dWrite))) => k ((.tup [.agg [.int .i64 y.1, .int .i64 y.2.1, .int .i64 y.2.2.1, .int .i64 y.2.2.2.1, .own 0, .own 1, .bool y.2.2.2.2.1, .str y.2.2.2.2.2.1], .bool y.2.2.2.2.2.2.1] : AV), ([.arr tRange y.2.2.2.2.2.2.2.1, .arr tWrite y.2.2.2.2.2.2.2.2] : St))) y) (fun y => par_ret _)

def impl_copyTxn_g (args : List AV) (st : St) (k : K1) : Option Res :=
  onPats [.agg [.int .i64, .int .i64, .int .i64, .int .i64, .lst tRange, .lst tWrite, .bool, .str]] [] args st (fun p q => impl_copyTxn_k (p.1.1, (p.1.2.1, (p.1.2.2.1, (p.1.2.2.2.1, (p.1.2.2.2.2.1, (p.1.2.2.2.2.2.1, (p.1.2.2.2.2.2.2.1, p.1.2.2.2.2.2.2.2.1))))))) (fun (y : (Int × Int × Int × Int × Bool × ByteArray × (List dRange) × (List dWrite))) => k (.agg [.int .i64 y.1, .int .i64 y.2.1, .int .i64 y.2.2.1, .int .i64 y.2.2.2.1, .own 0, .own 1, .bool y.2.2.2.2.1, .str y.2.2.2.2.2.1]) [.arr tRange y.2.2.2.2.2.2.1, .arr tWrite y.2.2.2.2.2.2.2]))
    (none)

theorem impl_copyTxn_q (a0 : Int) (a1 : Int) (a2 : Int) (a3 : Int) (a4 : (List dRange)) (a5 : (List dWrite)) (a6 : Bool) (a7 : ByteArray) : Par (fun k : AV × St → Option Res => impl_copyTxn_g [.agg [.int .i64 a0, .int .i64 a1, .int .i64 a2, .int .i64 a3, .lst tRange a4, .lst tWrite a5, .bool a6, .str a7]] [] (fun v s => k (v, s))) :=
  (impl_copyTxn_p (a0, (a1, (a2, (a3, (a4, (a5, (a6, a7)))))))).bind (H := fun (y : (Int × Int × Int × Int × Bool × ByteArray × (List dRange) × (List dWrite))) (k : AV × St → Option Res) => (fun (y : (Int × Int × Int × Int × Bool × ByteArray × (List dRange) × (List dWrite))) => k ((.agg [.int .i64 y.1, .int .i64 y.2.1, .int .i64 y.2.2.1, .int .i64 y.2.2.2.1, .own 0, .own 1, .bool y.2.2.2.2.1, .str y.2.2.2.2.2.1] : AV), ([.arr tRange y.2.2.2.2.2.2.1, .arr tWrite y.2.2.2.2.2.2.2] : St))) y) (fun y => par_ret _)

def impl_within_g (args : List AV) (st : St) (k : K1) : Option Res :=
  onPats [.int .i64, .int .i64, .int .i64] [] args st (fun p q => impl_within_k p.1 p.2.1 p.2.2.1 (fun (y : Bool) => k (.bool y) []))
    (none)

theorem impl_within_q (a0 : Int) (a1 : Int) (a2 : Int) : Par (fun k : AV × St → Option Res => impl_within_g [.int .i64 a0, .int .i64 a1, .int .i64 a2] [] (fun v s => k (v, s))) :=
  (impl_within_p a0 a1 a2).bind (H := fun (y : Bool) (k : AV × St → Option Res) => (fun (y : Bool) => k ((.bool y : AV), ([] : St))) y) (fun y => par_ret _)

def impl_KeyOk_g (args : List AV) (st : St) (k : K1) : Option Res :=
  onPats [.str] [] args st (fun p q => impl_KeyOk_k p.1 (fun (y : Bool) => k (.bool y) []))
    (none)

theorem impl_KeyOk_q (a0 : ByteArray) : Par (fun k : AV × St → Option Res => impl_KeyOk_g [.str a0] [] (fun v s => k (v, s))) :=
  (impl_KeyOk_p a0).bind (H := fun (y : Bool) (k : AV × St → Option Res) => (fun (y : Bool) => k ((.bool y : AV), ([] : St))) y) (fun y => par_ret _)

def impl_RangeOk_g (args : List AV) (st : St) (k : K1) : Option Res :=
  onPats [.agg [.str, .str]] [] args st (fun p q => impl_RangeOk_k (p.1.1, p.1.2.1) (fun (y : Bool) => k (.bool y) []))
    (none)

theorem impl_RangeOk_q (a0 : ByteArray) (a1 : ByteArray) : Par (fun k : AV × St → Option Res => impl_RangeOk_g [.agg [.str a0, .str a1]] [] (fun v s => k (v, s))) :=
  (impl_RangeOk_p (a0, a1)).bind (H := fun (y : Bool) (k : AV × St → Option Res) => (fun (y : Bool) => k ((.bool y : AV), ([] : St))) y) (fun y => par_ret _)

def impl_WriteOk_g (args : List AV) (st : St) (k : K1) : Option Res :=
  onPats [.agg [.str, .str, .bool]] [] args st (fun p q => impl_WriteOk_k (p.1.1, (p.1.2.1, p.1.2.2.1)) (fun (y : Bool) => k (.bool y) []))
    (none)

theorem impl_WriteOk_q (a0 : ByteArray) (a1 : ByteArray) (a2 : Bool) : Par (fun k : AV × St → Option Res => impl_WriteOk_g [.agg [.str a0, .str a1, .bool a2]] [] (fun v s => k (v, s))) :=
  (impl_WriteOk_p (a0, (a1, a2))).bind (H := fun (y : Bool) (k : AV × St → Option Res) => (fun (y : Bool) => k ((.bool y : AV), ([] : St))) y) (fun y => par_ret _)

def impl_WritesOk_g (args : List AV) (st : St) (k : K1) : Option Res :=
  onPats [.lst tWrite] [] args st (fun p q => impl_WritesOk_k p.1 (fun (y : Bool) => k (.bool y) []))
    (none)

theorem impl_WritesOk_q (a0 : (List dWrite)) : Par (fun k : AV × St → Option Res => impl_WritesOk_g [.lst tWrite a0] [] (fun v s => k (v, s))) :=
  (impl_WritesOk_p a0).bind (H := fun (y : Bool) (k : AV × St → Option Res) => (fun (y : Bool) => k ((.bool y : AV), ([] : St))) y) (fun y => par_ret _)

def impl_TxnOk_g (args : List AV) (st : St) (k : K1) : Option Res :=
  onPats [.agg [.int .i64, .int .i64, .int .i64, .int .i64, .lst tRange, .lst tWrite, .bool, .str]] [] args st (fun p q => impl_TxnOk_k (p.1.1, (p.1.2.1, (p.1.2.2.1, (p.1.2.2.2.1, (p.1.2.2.2.2.1, (p.1.2.2.2.2.2.1, (p.1.2.2.2.2.2.2.1, p.1.2.2.2.2.2.2.2.1))))))) (fun (y : Bool) => k (.bool y) []))
    (none)

theorem impl_TxnOk_q (a0 : Int) (a1 : Int) (a2 : Int) (a3 : Int) (a4 : (List dRange)) (a5 : (List dWrite)) (a6 : Bool) (a7 : ByteArray) : Par (fun k : AV × St → Option Res => impl_TxnOk_g [.agg [.int .i64 a0, .int .i64 a1, .int .i64 a2, .int .i64 a3, .lst tRange a4, .lst tWrite a5, .bool a6, .str a7]] [] (fun v s => k (v, s))) :=
  (impl_TxnOk_p (a0, (a1, (a2, (a3, (a4, (a5, (a6, a7)))))))).bind (H := fun (y : Bool) (k : AV × St → Option Res) => (fun (y : Bool) => k ((.bool y : AV), ([] : St))) y) (fun y => par_ret _)

def slices_Index_Range_g (args : List AV) (st : St) (k : K1) : Option Res :=
  onPats [.lst tRange, .agg [.str, .str]] [] args st (fun p q => slices_Index_Range_k p.1 (p.2.1.1, p.2.1.2.1) (fun (y : Int) => k (.int .i64 y) []))
    (none)

theorem slices_Index_Range_q (a0 : (List dRange)) (a1 : ByteArray) (a2 : ByteArray) : Par (fun k : AV × St → Option Res => slices_Index_Range_g [.lst tRange a0, .agg [.str a1, .str a2]] [] (fun v s => k (v, s))) :=
  (slices_Index_Range_p a0 (a1, a2)).bind (H := fun (y : Int) (k : AV × St → Option Res) => (fun (y : Int) => k ((.int .i64 y : AV), ([] : St))) y) (fun y => par_ret _)

def slices_Contains_Range_g (args : List AV) (st : St) (k : K1) : Option Res :=
  onPats [.lst tRange, .agg [.str, .str]] [] args st (fun p q => slices_Contains_Range_k p.1 (p.2.1.1, p.2.1.2.1) (fun (y : Bool) => k (.bool y) []))
    (none)

theorem slices_Contains_Range_q (a0 : (List dRange)) (a1 : ByteArray) (a2 : ByteArray) : Par (fun k : AV × St → Option Res => slices_Contains_Range_g [.lst tRange a0, .agg [.str a1, .str a2]] [] (fun v s => k (v, s))) :=
  (slices_Contains_Range_p a0 (a1, a2)).bind (H := fun (y : Bool) (k : AV × St → Option Res) => (fun (y : Bool) => k ((.bool y : AV), ([] : St))) y) (fun y => par_ret _)

def impl_ReadRange_g (args : List AV) (st : St) (k : K1) : Option Res :=
  onPats [.agg [.int .i64, .int .i64, .int .i64, .int .i64, .lst tRange, .lst tWrite, .bool, .str], .agg [.str, .str]] [] args st (fun p q => impl_ReadRange_k (p.1.1, (p.1.2.1, (p.1.2.2.1, (p.1.2.2.2.1, (p.1.2.2.2.2.1, (p.1.2.2.2.2.2.1, (p.1.2.2.2.2.2.2.1, p.1.2.2.2.2.2.2.2.1))))))) (p.2.1.1, p.2.1.2.1) (fun (y : (Int × Int × Int × Int × Bool × ByteArray × Bool × (List dRange) × (List dWrite))) => k (.tup [.agg [.int .i64 y.1, .int .i64 y.2.1, .int .i64 y.2.2.1, .int .i64 y.2.2.2.1, .own 0, .own 1, .bool y.2.2.2.2.1, .str y.2.2.2.2.2.1], .bool y.2.2.2.2.2.2.1]) [.arr tRange y.2.2.2.2.2.2.2.1, .arr tWrite y.2.2.2.2.2.2.2.2]))
    (none)

theorem impl_ReadRange_q (a0 : Int) (a1 : Int) (a2 : Int) (a3 : Int) (a4 : (List dRange)) (a5 : (List dWrite)) (a6 : Bool) (a7 : ByteArray) (a8 : ByteArray) (a9 : ByteArray) : Par (fun k : AV × St → Option Res => impl_ReadRange_g [.agg [.int .i64 a0, .int .i64 a1, .int .i64 a2, .int .i64 a3, .lst tRange a4, .lst tWrite a5, .bool a6, .str a7], .agg [.str a8, .str a9]] [] (fun v s => k (v, s))) :=
  (impl_ReadRange_p (a0, (a1, (a2, (a3, (a4, (a5, (a6, a7))))))) (a8, a9)).bind (H := fun (y : (Int × Int × Int × Int × Bool × ByteArray × Bool × (List dRange) × (List dWrite))) (k : AV × St → Option Res) => (fun (y : (Int × Int × Int × Int × Bool × ByteArray × Bool × (List dRange) × (List dWrite))) => k ((.tup [.agg [.int .i64 y.1, .int .i64 y.2.1, .int .i64 y.2.2.1, .int .i64 y.2.2.2.1, .own 0, .own 1, .bool y.2.2.2.2.1, .str y.2.2.2.2.2.1], .bool y.2.2.2.2.2.2.1] : AV), ([.arr tRange y.2.2.2.2.2.2.2.1, .arr tWrite y.2.2.2.2.2.2.2.2] : St))) y) (fun y => par_ret _)

def laws_eqRange_g (args : List AV) (st : St) (k : K1) : Option Res :=
  onPats [.agg [.str, .str], .agg [.str, .str]] [] args st (fun p q => laws_eqRange_k (p.1.1, p.1.2.1) (p.2.1.1, p.2.1.2.1) (fun (y : Bool) => k (.bool y) []))
    (none)

theorem laws_eqRange_q (a0 : ByteArray) (a1 : ByteArray) (a2 : ByteArray) (a3 : ByteArray) : Par (fun k : AV × St → Option Res => laws_eqRange_g [.agg [.str a0, .str a1], .agg [.str a2, .str a3]] [] (fun v s => k (v, s))) :=
  (laws_eqRange_p (a0, a1) (a2, a3)).bind (H := fun (y : Bool) (k : AV × St → Option Res) => (fun (y : Bool) => k ((.bool y : AV), ([] : St))) y) (fun y => par_ret _)

def laws_eqRangeS_g (args : List AV) (st : St) (k : K1) : Option Res :=
  onPats [.lst tRange, .lst tRange] [] args st (fun p q => laws_eqRangeS_k p.1 p.2.1 (fun (y : Bool) => k (.bool y) []))
    (none)

theorem laws_eqRangeS_q (a0 : (List dRange)) (a1 : (List dRange)) : Par (fun k : AV × St → Option Res => laws_eqRangeS_g [.lst tRange a0, .lst tRange a1] [] (fun v s => k (v, s))) :=
  (laws_eqRangeS_p a0 a1).bind (H := fun (y : Bool) (k : AV × St → Option Res) => (fun (y : Bool) => k ((.bool y : AV), ([] : St))) y) (fun y => par_ret _)

def laws_eqWrite_g (args : List AV) (st : St) (k : K1) : Option Res :=
  onPats [.agg [.str, .str, .bool], .agg [.str, .str, .bool]] [] args st (fun p q => laws_eqWrite_k (p.1.1, (p.1.2.1, p.1.2.2.1)) (p.2.1.1, (p.2.1.2.1, p.2.1.2.2.1)) (fun (y : Bool) => k (.bool y) []))
    (none)

theorem laws_eqWrite_q (a0 : ByteArray) (a1 : ByteArray) (a2 : Bool) (a3 : ByteArray) (a4 : ByteArray) (a5 : Bool) : Par (fun k : AV × St → Option Res => laws_eqWrite_g [.agg [.str a0, .str a1, .bool a2], .agg [.str a3, .str a4, .bool a5]] [] (fun v s => k (v, s))) :=
  (laws_eqWrite_p (a0, (a1, a2)) (a3, (a4, a5))).bind (H := fun (y : Bool) (k : AV × St → Option Res) => (fun (y : Bool) => k ((.bool y : AV), ([] : St))) y) (fun y => par_ret _)

def laws_eqWriteS_g (args : List AV) (st : St) (k : K1) : Option Res :=
  onPats [.lst tWrite, .lst tWrite] [] args st (fun p q => laws_eqWriteS_k p.1 p.2.1 (fun (y : Bool) => k (.bool y) []))
    (none)

theorem laws_eqWriteS_q (a0 : (List dWrite)) (a1 : (List dWrite)) : Par (fun k : AV × St → Option Res => laws_eqWriteS_g [.lst tWrite a0, .lst tWrite a1] [] (fun v s => k (v, s))) :=
  (laws_eqWriteS_p a0 a1).bind (H := fun (y : Bool) (k : AV × St → Option Res) => (fun (y : Bool) => k ((.bool y : AV), ([] : St))) y) (fun y => par_ret _)

def laws_eqTxn_g (args : List AV) (st : St) (k : K1) : Option Res :=
  onPats [.agg [.int .i64, .int .i64, .int .i64, .int .i64, .lst tRange, .lst tWrite, .bool, .str], .agg [.int .i64, .int .i64, .int .i64, .int .i64, .lst tRange, .lst tWrite, .bool, .str]] [] args st (fun p q => laws_eqTxn_k (p.1.1, (p.1.2.1, (p.1.2.2.1, (p.1.2.2.2.1, (p.1.2.2.2.2.1, (p.1.2.2.2.2.2.1, (p.1.2.2.2.2.2.2.1, p.1.2.2.2.2.2.2.2.1))))))) (p.2.1.1, (p.2.1.2.1, (p.2.1.2.2.1, (p.2.1.2.2.2.1, (p.2.1.2.2.2.2.1, (p.2.1.2.2.2.2.2.1, (p.2.1.2.2.2.2.2.2.1, p.2.1.2.2.2.2.2.2.2.1))))))) (fun (y : Bool) => k (.bool y) []))
    (none)

theorem laws_eqTxn_q (a0 : Int) (a1 : Int) (a2 : Int) (a3 : Int) (a4 : (List dRange)) (a5 : (List dWrite)) (a6 : Bool) (a7 : ByteArray) (a8 : Int) (a9 : Int) (a10 : Int) (a11 : Int) (a12 : (List dRange)) (a13 : (List dWrite)) (a14 : Bool) (a15 : ByteArray) : Par (fun k : AV × St → Option Res => laws_eqTxn_g [.agg [.int .i64 a0, .int .i64 a1, .int .i64 a2, .int .i64 a3, .lst tRange a4, .lst tWrite a5, .bool a6, .str a7], .agg [.int .i64 a8, .int .i64 a9, .int .i64 a10, .int .i64 a11, .lst tRange a12, .lst tWrite a13, .bool a14, .str a15]] [] (fun v s => k (v, s))) :=
  (laws_eqTxn_p (a0, (a1, (a2, (a3, (a4, (a5, (a6, a7))))))) (a8, (a9, (a10, (a11, (a12, (a13, (a14, a15)))))))).bind (H := fun (y : Bool) (k : AV × St → Option Res) => (fun (y : Bool) => k ((.bool y : AV), ([] : St))) y) (fun y => par_ret _)

def laws_markText_g (args : List AV) (st : St) (k : K1) : Option Res :=
  onPats [.int .i64] [] args st (fun p q => laws_markText_k p.1 (fun (y : ByteArray) => k (.str y) []))
    (none)

theorem laws_markText_q (a0 : Int) : Par (fun k : AV × St → Option Res => laws_markText_g [.int .i64 a0] [] (fun v s => k (v, s))) :=
  (laws_markText_p a0).bind (H := fun (y : ByteArray) (k : AV × St → Option Res) => (fun (y : ByteArray) => k ((.str y : AV), ([] : St))) y) (fun y => par_ret _)

def laws_markRangeS_g (args : List AV) (st : St) (k : K1) : Option Res :=
  onPats [.own 0, .int .i64] [.arr tRange] args st (fun p q => laws_markRangeS_vo_k p.2.1 q.1 (fun (y : (Int × (List dRange))) => k (.int .i64 y.1) [.arr tRange y.2]))
    (none)

theorem laws_markRangeS_vo_q (a0 : Int) (a1 : (List dRange)) : Par (fun k : AV × St → Option Res => laws_markRangeS_g [.own 0, .int .i64 a0] [.arr tRange a1] (fun v s => k (v, s))) :=
  (laws_markRangeS_vo_p a0 a1).bind (H := fun (y : (Int × (List dRange))) (k : AV × St → Option Res) => (fun (y : (Int × (List dRange))) => k ((.int .i64 y.1 : AV), ([.arr tRange y.2] : St))) y) (fun y => par_ret _)

def laws_markWriteS_g (args : List AV) (st : St) (k : K1) : Option Res :=
  onPats [.own 0, .int .i64] [.arr tWrite] args st (fun p q => laws_markWriteS_vo_k p.2.1 q.1 (fun (y : (Int × (List dWrite))) => k (.int .i64 y.1) [.arr tWrite y.2]))
    (none)

theorem laws_markWriteS_vo_q (a0 : Int) (a1 : (List dWrite)) : Par (fun k : AV × St → Option Res => laws_markWriteS_g [.own 0, .int .i64 a0] [.arr tWrite a1] (fun v s => k (v, s))) :=
  (laws_markWriteS_vo_p a0 a1).bind (H := fun (y : (Int × (List dWrite))) (k : AV × St → Option Res) => (fun (y : (Int × (List dWrite))) => k ((.int .i64 y.1 : AV), ([.arr tWrite y.2] : St))) y) (fun y => par_ret _)

def laws_markTxn_g (args : List AV) (st : St) (k : K1) : Option Res :=
  onPats [.agg [.int .i64, .int .i64, .int .i64, .int .i64, .own 0, .own 1, .bool, .str], .int .i64] [.arr tRange, .arr tWrite] args st (fun p q => laws_markTxn_va_k p.1.1 p.1.2.1 p.1.2.2.1 p.1.2.2.2.1 p.1.2.2.2.2.2.2.1 p.1.2.2.2.2.2.2.2.1 p.2.1 q.1 q.2.1 (fun (y : (Int × (List dRange) × (List dWrite))) => k (.int .i64 y.1) [.arr tRange y.2.1, .arr tWrite y.2.2]))
    (none)

theorem laws_markTxn_va_q (a0 : Int) (a1 : Int) (a2 : Int) (a3 : Int) (a4 : Bool) (a5 : ByteArray) (a6 : Int) (a7 : (List dRange)) (a8 : (List dWrite)) : Par (fun k : AV × St → Option Res => laws_markTxn_g [.agg [.int .i64 a0, .int .i64 a1, .int .i64 a2, .int .i64 a3, .own 0, .own 1, .bool a4, .str a5], .int .i64 a6] [.arr tRange a7, .arr tWrite a8] (fun v s => k (v, s))) :=
  (laws_markTxn_va_p a0 a1 a2 a3 a4 a5 a6 a7 a8).bind (H := fun (y : (Int × (List dRange) × (List dWrite))) (k : AV × St → Option Res) => (fun (y : (Int × (List dRange) × (List dWrite))) => k ((.int .i64 y.1 : AV), ([.arr tRange y.2.1, .arr tWrite y.2.2] : St))) y) (fun y => par_ret _)

def laws_heldRangeS_g (args : List AV) (st : St) (k : K1) : Option Res :=
  onPats [.lst tRange, .int .i64] [] args st (fun p q => laws_heldRangeS_k p.1 p.2.1 (fun (y : Int) => k (.int .i64 y) []))
    (none)

theorem laws_heldRangeS_q (a0 : (List dRange)) (a1 : Int) : Par (fun k : AV × St → Option Res => laws_heldRangeS_g [.lst tRange a0, .int .i64 a1] [] (fun v s => k (v, s))) :=
  (laws_heldRangeS_p a0 a1).bind (H := fun (y : Int) (k : AV × St → Option Res) => (fun (y : Int) => k ((.int .i64 y : AV), ([] : St))) y) (fun y => par_ret _)

def laws_heldWriteS_g (args : List AV) (st : St) (k : K1) : Option Res :=
  onPats [.lst tWrite, .int .i64] [] args st (fun p q => laws_heldWriteS_k p.1 p.2.1 (fun (y : Int) => k (.int .i64 y) []))
    (none)

theorem laws_heldWriteS_q (a0 : (List dWrite)) (a1 : Int) : Par (fun k : AV × St → Option Res => laws_heldWriteS_g [.lst tWrite a0, .int .i64 a1] [] (fun v s => k (v, s))) :=
  (laws_heldWriteS_p a0 a1).bind (H := fun (y : Int) (k : AV × St → Option Res) => (fun (y : Int) => k ((.int .i64 y : AV), ([] : St))) y) (fun y => par_ret _)

def laws_heldTxn_g (args : List AV) (st : St) (k : K1) : Option Res :=
  onPats [.agg [.int .i64, .int .i64, .int .i64, .int .i64, .lst tRange, .lst tWrite, .bool, .str], .int .i64] [] args st (fun p q => laws_heldTxn_k (p.1.1, (p.1.2.1, (p.1.2.2.1, (p.1.2.2.2.1, (p.1.2.2.2.2.1, (p.1.2.2.2.2.2.1, (p.1.2.2.2.2.2.2.1, p.1.2.2.2.2.2.2.2.1))))))) p.2.1 (fun (y : Int) => k (.int .i64 y) []))
    (none)

theorem laws_heldTxn_q (a0 : Int) (a1 : Int) (a2 : Int) (a3 : Int) (a4 : (List dRange)) (a5 : (List dWrite)) (a6 : Bool) (a7 : ByteArray) (a8 : Int) : Par (fun k : AV × St → Option Res => laws_heldTxn_g [.agg [.int .i64 a0, .int .i64 a1, .int .i64 a2, .int .i64 a3, .lst tRange a4, .lst tWrite a5, .bool a6, .str a7], .int .i64 a8] [] (fun v s => k (v, s))) :=
  (laws_heldTxn_p (a0, (a1, (a2, (a3, (a4, (a5, (a6, a7))))))) a8).bind (H := fun (y : Int) (k : AV × St → Option Res) => (fun (y : Int) => k ((.int .i64 y : AV), ([] : St))) y) (fun y => par_ret _)

def laws_FnExactReadRange_g (args : List AV) (st : St) (k : K1) : Option Res :=
  onPats [.agg [.int .i64, .int .i64, .int .i64, .int .i64, .lst tRange, .lst tWrite, .bool, .str], .agg [.str, .str]] [] args st (fun p q => laws_FnExactReadRange_k (p.1.1, (p.1.2.1, (p.1.2.2.1, (p.1.2.2.2.1, (p.1.2.2.2.2.1, (p.1.2.2.2.2.2.1, (p.1.2.2.2.2.2.2.1, p.1.2.2.2.2.2.2.2.1))))))) (p.2.1.1, p.2.1.2.1) (fun (y : Bool) => k (.bool y) []))
    (none)

theorem laws_FnExactReadRange_q (a0 : Int) (a1 : Int) (a2 : Int) (a3 : Int) (a4 : (List dRange)) (a5 : (List dWrite)) (a6 : Bool) (a7 : ByteArray) (a8 : ByteArray) (a9 : ByteArray) : Par (fun k : AV × St → Option Res => laws_FnExactReadRange_g [.agg [.int .i64 a0, .int .i64 a1, .int .i64 a2, .int .i64 a3, .lst tRange a4, .lst tWrite a5, .bool a6, .str a7], .agg [.str a8, .str a9]] [] (fun v s => k (v, s))) :=
  (laws_FnExactReadRange_p (a0, (a1, (a2, (a3, (a4, (a5, (a6, a7))))))) (a8, a9)).bind (H := fun (y : Bool) (k : AV × St → Option Res) => (fun (y : Bool) => k ((.bool y : AV), ([] : St))) y) (fun y => par_ret _)

end

end Go.VE
