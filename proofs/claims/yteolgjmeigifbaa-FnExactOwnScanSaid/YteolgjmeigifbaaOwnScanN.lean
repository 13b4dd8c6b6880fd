/- Native programs of the functions, written by gen.py. -/

import Derived.Test.YteolgjmeigifbaaT0
import Derived.Test.YteolgjmeigifbaaV28

namespace Go.VE

noncomputable section

set_option linter.unusedVariables false
set_option linter.unusedSimpArgs false
set_option maxRecDepth 100000


def laws_szRange_d (a0 : dRange) (a1 : Int) (k : Int → Option Res) : Option Res :=
  bif (decide ((IntKind.wrap .i64 (a1 - (a0.1.size : Int))) < (0 : Int))) then
    k (-1 : Int)
  else
    bif (decide ((IntKind.wrap .i64 ((IntKind.wrap .i64 (a1 - (a0.1.size : Int))) - (a0.2.size : Int))) < (0 : Int))) then
      k (-1 : Int)
    else
      k (IntKind.wrap .i64 ((IntKind.wrap .i64 (a1 - (a0.1.size : Int))) - (a0.2.size : Int)))

theorem laws_szRange_h : ∃ g : dRange → Int → (Int → Option Res) → Option Res, g = laws_szRange_d := ⟨_, rfl⟩
def laws_szRange_k : dRange → Int → (Int → Option Res) → Option Res := Classical.choose laws_szRange_h
theorem laws_szRange_e : laws_szRange_k = laws_szRange_d := Classical.choose_spec laws_szRange_h

theorem laws_szRange_p (a0 : dRange) (a1 : Int) : Par (laws_szRange_k a0 a1) := by
  rw [laws_szRange_e]
  unfold laws_szRange_d
  exact (par_bif (par_ret _) (par_bif (par_ret _) (par_ret _)))

def laws_szRangeS_b0 (x : ((List dRange) × Int × Int × Int)) (k : ((List dRange) × Int × Int × Int) ⊕ (((List dRange) × Int × Int × Int) ⊕ ((List dRange) × Int × Int × Int)) → Option Res) : Option Res :=
    bif (decide (x.2.2.2 < (x.1.length : Int))) then
      if 0 ≤ x.2.2.2 ∧ x.2.2.2 < (x.1.length : Int) then
        laws_szRange_k (rd (Ty.zero tRange) x.1 x.2.2.2) x.2.1 (fun y3 =>
          bif (decide (y3 < (0 : Int))) then
            k (.inr (.inl (x.1, y3, (-1 : Int), x.2.2.2)))
          else
            k (.inl (x.1, y3, x.2.2.1, (IntKind.wrap .i64 (x.2.2.2 + (1 : Int))))))
      else none
    else
      k (.inr (.inr (x.1, x.2.1, x.2.2.1, x.2.2.2)))

theorem laws_szRangeS_bp0 (x : ((List dRange) × Int × Int × Int)) : Par (laws_szRangeS_b0 x) := by
  unfold laws_szRangeS_b0
  exact (par_bif (par_ite (c := 0 ≤ x.2.2.2 ∧ x.2.2.2 < (x.1.length : Int)) ((laws_szRange_p (rd (Ty.zero tRange) x.1 x.2.2.2) x.2.1).bind fun y3 => (par_bif (par_ret _) (par_ret _))) par_none) (par_ret _))

def laws_szRangeS_d (a0 : (List dRange)) (a1 : Int) (k : Int → Option Res) : Option Res :=
  bif (decide ((IntKind.wrap .i64 (a1 - (a0.length : Int))) < (0 : Int))) then
    k (-1 : Int)
  else
    loopK laws_szRangeS_b0 Fuel (a0, (IntKind.wrap .i64 (a1 - (a0.length : Int))), (0 : Int), (0 : Int)) (Sum.elim (fun z1 =>
      k z1.2.2.1) (fun z2 =>
      k z2.2.1))

theorem laws_szRangeS_h : ∃ g : (List dRange) → Int → (Int → Option Res) → Option Res, g = laws_szRangeS_d := ⟨_, rfl⟩
def laws_szRangeS_k : (List dRange) → Int → (Int → Option Res) → Option Res := Classical.choose laws_szRangeS_h
theorem laws_szRangeS_e : laws_szRangeS_k = laws_szRangeS_d := Classical.choose_spec laws_szRangeS_h

theorem laws_szRangeS_p (a0 : (List dRange)) (a1 : Int) : Par (laws_szRangeS_k a0 a1) := by
  rw [laws_szRangeS_e]
  unfold laws_szRangeS_d
  exact (par_bif (par_ret _) ((par_loop laws_szRangeS_bp0 Fuel (a0, (IntKind.wrap .i64 (a1 - (a0.length : Int))), (0 : Int), (0 : Int))).bind2 (fun z1 => (par_ret _)) (fun z2 => (par_ret _))))

def laws_szWrite_d (a0 : dWrite) (a1 : Int) (k : Int → Option Res) : Option Res :=
  bif (decide ((IntKind.wrap .i64 (a1 - (a0.1.size : Int))) < (0 : Int))) then
    k (-1 : Int)
  else
    bif (decide ((IntKind.wrap .i64 ((IntKind.wrap .i64 (a1 - (a0.1.size : Int))) - (a0.2.1.size : Int))) < (0 : Int))) then
      k (-1 : Int)
    else
      k (IntKind.wrap .i64 ((IntKind.wrap .i64 (a1 - (a0.1.size : Int))) - (a0.2.1.size : Int)))

theorem laws_szWrite_h : ∃ g : dWrite → Int → (Int → Option Res) → Option Res, g = laws_szWrite_d := ⟨_, rfl⟩
def laws_szWrite_k : dWrite → Int → (Int → Option Res) → Option Res := Classical.choose laws_szWrite_h
theorem laws_szWrite_e : laws_szWrite_k = laws_szWrite_d := Classical.choose_spec laws_szWrite_h

theorem laws_szWrite_p (a0 : dWrite) (a1 : Int) : Par (laws_szWrite_k a0 a1) := by
  rw [laws_szWrite_e]
  unfold laws_szWrite_d
  exact (par_bif (par_ret _) (par_bif (par_ret _) (par_ret _)))

def laws_szWriteS_b0 (x : ((List dWrite) × Int × Int × Int)) (k : ((List dWrite) × Int × Int × Int) ⊕ (((List dWrite) × Int × Int × Int) ⊕ ((List dWrite) × Int × Int × Int)) → Option Res) : Option Res :=
    bif (decide (x.2.2.2 < (x.1.length : Int))) then
      if 0 ≤ x.2.2.2 ∧ x.2.2.2 < (x.1.length : Int) then
        laws_szWrite_k (rd (Ty.zero tWrite) x.1 x.2.2.2) x.2.1 (fun y3 =>
          bif (decide (y3 < (0 : Int))) then
            k (.inr (.inl (x.1, y3, (-1 : Int), x.2.2.2)))
          else
            k (.inl (x.1, y3, x.2.2.1, (IntKind.wrap .i64 (x.2.2.2 + (1 : Int))))))
      else none
    else
      k (.inr (.inr (x.1, x.2.1, x.2.2.1, x.2.2.2)))

theorem laws_szWriteS_bp0 (x : ((List dWrite) × Int × Int × Int)) : Par (laws_szWriteS_b0 x) := by
  unfold laws_szWriteS_b0
  exact (par_bif (par_ite (c := 0 ≤ x.2.2.2 ∧ x.2.2.2 < (x.1.length : Int)) ((laws_szWrite_p (rd (Ty.zero tWrite) x.1 x.2.2.2) x.2.1).bind fun y3 => (par_bif (par_ret _) (par_ret _))) par_none) (par_ret _))

def laws_szWriteS_d (a0 : (List dWrite)) (a1 : Int) (k : Int → Option Res) : Option Res :=
  bif (decide ((IntKind.wrap .i64 (a1 - (a0.length : Int))) < (0 : Int))) then
    k (-1 : Int)
  else
    loopK laws_szWriteS_b0 Fuel (a0, (IntKind.wrap .i64 (a1 - (a0.length : Int))), (0 : Int), (0 : Int)) (Sum.elim (fun z1 =>
      k z1.2.2.1) (fun z2 =>
      k z2.2.1))

theorem laws_szWriteS_h : ∃ g : (List dWrite) → Int → (Int → Option Res) → Option Res, g = laws_szWriteS_d := ⟨_, rfl⟩
def laws_szWriteS_k : (List dWrite) → Int → (Int → Option Res) → Option Res := Classical.choose laws_szWriteS_h
theorem laws_szWriteS_e : laws_szWriteS_k = laws_szWriteS_d := Classical.choose_spec laws_szWriteS_h

theorem laws_szWriteS_p (a0 : (List dWrite)) (a1 : Int) : Par (laws_szWriteS_k a0 a1) := by
  rw [laws_szWriteS_e]
  unfold laws_szWriteS_d
  exact (par_bif (par_ret _) ((par_loop laws_szWriteS_bp0 Fuel (a0, (IntKind.wrap .i64 (a1 - (a0.length : Int))), (0 : Int), (0 : Int))).bind2 (fun z1 => (par_ret _)) (fun z2 => (par_ret _))))

def laws_szTxn_d (a0 : dTxn) (a1 : Int) (k : Int → Option Res) : Option Res :=
  laws_szRangeS_k a0.2.2.2.2.1 a1 (fun y1 =>
    bif (decide (y1 < (0 : Int))) then
      k (-1 : Int)
    else
      laws_szWriteS_k a0.2.2.2.2.2.1 y1 (fun y2 =>
        bif (decide (y2 < (0 : Int))) then
          k (-1 : Int)
        else
          bif (decide ((IntKind.wrap .i64 (y2 - (a0.2.2.2.2.2.2.2.size : Int))) < (0 : Int))) then
            k (-1 : Int)
          else
            k (IntKind.wrap .i64 (y2 - (a0.2.2.2.2.2.2.2.size : Int)))))

theorem laws_szTxn_h : ∃ g : dTxn → Int → (Int → Option Res) → Option Res, g = laws_szTxn_d := ⟨_, rfl⟩
def laws_szTxn_k : dTxn → Int → (Int → Option Res) → Option Res := Classical.choose laws_szTxn_h
theorem laws_szTxn_e : laws_szTxn_k = laws_szTxn_d := Classical.choose_spec laws_szTxn_h

theorem laws_szTxn_p (a0 : dTxn) (a1 : Int) : Par (laws_szTxn_k a0 a1) := by
  rw [laws_szTxn_e]
  unfold laws_szTxn_d
  exact ((laws_szRangeS_p a0.2.2.2.2.1 a1).bind fun y1 => (par_bif (par_ret _) ((laws_szWriteS_p a0.2.2.2.2.2.1 y1).bind fun y2 => (par_bif (par_ret _) (par_bif (par_ret _) (par_ret _))))))

def laws_szVersion_d (a0 : dVersion) (a1 : Int) (k : Int → Option Res) : Option Res :=
  bif (decide ((IntKind.wrap .i64 (a1 - (a0.1.size : Int))) < (0 : Int))) then
    k (-1 : Int)
  else
    bif (decide ((IntKind.wrap .i64 ((IntKind.wrap .i64 (a1 - (a0.1.size : Int))) - (a0.2.1.size : Int))) < (0 : Int))) then
      k (-1 : Int)
    else
      k (IntKind.wrap .i64 ((IntKind.wrap .i64 (a1 - (a0.1.size : Int))) - (a0.2.1.size : Int)))

theorem laws_szVersion_h : ∃ g : dVersion → Int → (Int → Option Res) → Option Res, g = laws_szVersion_d := ⟨_, rfl⟩
def laws_szVersion_k : dVersion → Int → (Int → Option Res) → Option Res := Classical.choose laws_szVersion_h
theorem laws_szVersion_e : laws_szVersion_k = laws_szVersion_d := Classical.choose_spec laws_szVersion_h

theorem laws_szVersion_p (a0 : dVersion) (a1 : Int) : Par (laws_szVersion_k a0 a1) := by
  rw [laws_szVersion_e]
  unfold laws_szVersion_d
  exact (par_bif (par_ret _) (par_bif (par_ret _) (par_ret _)))

def laws_szVersionS_b0 (x : ((List dVersion) × Int × Int × Int)) (k : ((List dVersion) × Int × Int × Int) ⊕ (((List dVersion) × Int × Int × Int) ⊕ ((List dVersion) × Int × Int × Int)) → Option Res) : Option Res :=
    bif (decide (x.2.2.2 < (x.1.length : Int))) then
      if 0 ≤ x.2.2.2 ∧ x.2.2.2 < (x.1.length : Int) then
        laws_szVersion_k (rd (Ty.zero tVersion) x.1 x.2.2.2) x.2.1 (fun y3 =>
          bif (decide (y3 < (0 : Int))) then
            k (.inr (.inl (x.1, y3, (-1 : Int), x.2.2.2)))
          else
            k (.inl (x.1, y3, x.2.2.1, (IntKind.wrap .i64 (x.2.2.2 + (1 : Int))))))
      else none
    else
      k (.inr (.inr (x.1, x.2.1, x.2.2.1, x.2.2.2)))

theorem laws_szVersionS_bp0 (x : ((List dVersion) × Int × Int × Int)) : Par (laws_szVersionS_b0 x) := by
  unfold laws_szVersionS_b0
  exact (par_bif (par_ite (c := 0 ≤ x.2.2.2 ∧ x.2.2.2 < (x.1.length : Int)) ((laws_szVersion_p (rd (Ty.zero tVersion) x.1 x.2.2.2) x.2.1).bind fun y3 => (par_bif (par_ret _) (par_ret _))) par_none) (par_ret _))

def laws_szVersionS_d (a0 : (List dVersion)) (a1 : Int) (k : Int → Option Res) : Option Res :=
  bif (decide ((IntKind.wrap .i64 (a1 - (a0.length : Int))) < (0 : Int))) then
    k (-1 : Int)
  else
    loopK laws_szVersionS_b0 Fuel (a0, (IntKind.wrap .i64 (a1 - (a0.length : Int))), (0 : Int), (0 : Int)) (Sum.elim (fun z1 =>
      k z1.2.2.1) (fun z2 =>
      k z2.2.1))

theorem laws_szVersionS_h : ∃ g : (List dVersion) → Int → (Int → Option Res) → Option Res, g = laws_szVersionS_d := ⟨_, rfl⟩
def laws_szVersionS_k : (List dVersion) → Int → (Int → Option Res) → Option Res := Classical.choose laws_szVersionS_h
theorem laws_szVersionS_e : laws_szVersionS_k = laws_szVersionS_d := Classical.choose_spec laws_szVersionS_h

theorem laws_szVersionS_p (a0 : (List dVersion)) (a1 : Int) : Par (laws_szVersionS_k a0 a1) := by
  rw [laws_szVersionS_e]
  unfold laws_szVersionS_d
  exact (par_bif (par_ret _) ((par_loop laws_szVersionS_bp0 Fuel (a0, (IntKind.wrap .i64 (a1 - (a0.length : Int))), (0 : Int), (0 : Int))).bind2 (fun z1 => (par_ret _)) (fun z2 => (par_ret _))))

def laws_toRange_d (a0 : dRange) (k : (ByteArray × ByteArray) → Option Res) : Option Res :=
  k (a0.1, a0.2)

theorem laws_toRange_h : ∃ g : dRange → ((ByteArray × ByteArray) → Option Res) → Option Res, g = laws_toRange_d := ⟨_, rfl⟩
def laws_toRange_k : dRange → ((ByteArray × ByteArray) → Option Res) → Option Res := Classical.choose laws_toRange_h
theorem laws_toRange_e : laws_toRange_k = laws_toRange_d := Classical.choose_spec laws_toRange_h

theorem laws_toRange_p (a0 : dRange) : Par (laws_toRange_k a0) := by
  rw [laws_toRange_e]
  unfold laws_toRange_d
  exact (par_ret _)

def laws_toRangeS_b0 (x : ((List dRange) × Int × (List dRange))) (k : ((List dRange) × Int × (List dRange)) ⊕ ((List dRange) × Int × (List dRange)) → Option Res) : Option Res :=
    bif (decide (x.2.1 < (x.1.length : Int))) then
      if 0 ≤ x.2.1 ∧ x.2.1 < (x.1.length : Int) then
        laws_toRange_k (rd (Ty.zero tRange) x.1 x.2.1) (fun y2 =>
          if 0 ≤ x.2.1 ∧ x.2.1 < (x.2.2.length : Int) then
            k (.inl (x.1, (IntKind.wrap .i64 (x.2.1 + (1 : Int))), (x.2.2.set x.2.1.toNat y2)))
          else none)
      else none
    else
      k (.inr (x.1, x.2.1, x.2.2))

theorem laws_toRangeS_bp0 (x : ((List dRange) × Int × (List dRange))) : Par (laws_toRangeS_b0 x) := by
  unfold laws_toRangeS_b0
  exact (par_bif (par_ite (c := 0 ≤ x.2.1 ∧ x.2.1 < (x.1.length : Int)) ((laws_toRange_p (rd (Ty.zero tRange) x.1 x.2.1)).bind fun y2 => (par_ite (c := 0 ≤ x.2.1 ∧ x.2.1 < (x.2.2.length : Int)) (par_ret _) par_none)) par_none) (par_ret _))

def laws_toRangeS_d (a0 : (List dRange)) (k : (List dRange) → Option Res) : Option Res :=
  if 0 ≤ (a0.length : Int) ∧ (a0.length : Int) ≤ (a0.length : Int) ∧ (a0.length : Int) ≤ (VE.maxLen : Int) then
    loopK laws_toRangeS_b0 Fuel (a0, (0 : Int), (List.replicate (a0.length : Int).toNat (Ty.zero tRange))) (fun z1 =>
      k z1.2.2)
  else none

theorem laws_toRangeS_h : ∃ g : (List dRange) → ((List dRange) → Option Res) → Option Res, g = laws_toRangeS_d := ⟨_, rfl⟩
def laws_toRangeS_k : (List dRange) → ((List dRange) → Option Res) → Option Res := Classical.choose laws_toRangeS_h
theorem laws_toRangeS_e : laws_toRangeS_k = laws_toRangeS_d := Classical.choose_spec laws_toRangeS_h

theorem laws_toRangeS_p (a0 : (List dRange)) : Par (laws_toRangeS_k a0) := by
  rw [laws_toRangeS_e]
  unfold laws_toRangeS_d
  exact (par_ite (c := 0 ≤ (a0.length : Int) ∧ (a0.length : Int) ≤ (a0.length : Int) ∧ (a0.length : Int) ≤ (VE.maxLen : Int)) ((par_loop laws_toRangeS_bp0 Fuel (a0, (0 : Int), (List.replicate (a0.length : Int).toNat (Ty.zero tRange)))).bind fun z1 => (par_ret _)) par_none)

def laws_toWrite_d (a0 : dWrite) (k : (ByteArray × ByteArray × Bool) → Option Res) : Option Res :=
  k (a0.1, a0.2.1, a0.2.2)

theorem laws_toWrite_h : ∃ g : dWrite → ((ByteArray × ByteArray × Bool) → Option Res) → Option Res, g = laws_toWrite_d := ⟨_, rfl⟩
def laws_toWrite_k : dWrite → ((ByteArray × ByteArray × Bool) → Option Res) → Option Res := Classical.choose laws_toWrite_h
theorem laws_toWrite_e : laws_toWrite_k = laws_toWrite_d := Classical.choose_spec laws_toWrite_h

theorem laws_toWrite_p (a0 : dWrite) : Par (laws_toWrite_k a0) := by
  rw [laws_toWrite_e]
  unfold laws_toWrite_d
  exact (par_ret _)

def laws_toWriteS_b0 (x : ((List dWrite) × Int × (List dWrite))) (k : ((List dWrite) × Int × (List dWrite)) ⊕ ((List dWrite) × Int × (List dWrite)) → Option Res) : Option Res :=
    bif (decide (x.2.1 < (x.1.length : Int))) then
      if 0 ≤ x.2.1 ∧ x.2.1 < (x.1.length : Int) then
        laws_toWrite_k (rd (Ty.zero tWrite) x.1 x.2.1) (fun y2 =>
          if 0 ≤ x.2.1 ∧ x.2.1 < (x.2.2.length : Int) then
            k (.inl (x.1, (IntKind.wrap .i64 (x.2.1 + (1 : Int))), (x.2.2.set x.2.1.toNat y2)))
          else none)
      else none
    else
      k (.inr (x.1, x.2.1, x.2.2))

theorem laws_toWriteS_bp0 (x : ((List dWrite) × Int × (List dWrite))) : Par (laws_toWriteS_b0 x) := by
  unfold laws_toWriteS_b0
  exact (par_bif (par_ite (c := 0 ≤ x.2.1 ∧ x.2.1 < (x.1.length : Int)) ((laws_toWrite_p (rd (Ty.zero tWrite) x.1 x.2.1)).bind fun y2 => (par_ite (c := 0 ≤ x.2.1 ∧ x.2.1 < (x.2.2.length : Int)) (par_ret _) par_none)) par_none) (par_ret _))

def laws_toWriteS_d (a0 : (List dWrite)) (k : (List dWrite) → Option Res) : Option Res :=
  if 0 ≤ (a0.length : Int) ∧ (a0.length : Int) ≤ (a0.length : Int) ∧ (a0.length : Int) ≤ (VE.maxLen : Int) then
    loopK laws_toWriteS_b0 Fuel (a0, (0 : Int), (List.replicate (a0.length : Int).toNat (Ty.zero tWrite))) (fun z1 =>
      k z1.2.2)
  else none

theorem laws_toWriteS_h : ∃ g : (List dWrite) → ((List dWrite) → Option Res) → Option Res, g = laws_toWriteS_d := ⟨_, rfl⟩
def laws_toWriteS_k : (List dWrite) → ((List dWrite) → Option Res) → Option Res := Classical.choose laws_toWriteS_h
theorem laws_toWriteS_e : laws_toWriteS_k = laws_toWriteS_d := Classical.choose_spec laws_toWriteS_h

theorem laws_toWriteS_p (a0 : (List dWrite)) : Par (laws_toWriteS_k a0) := by
  rw [laws_toWriteS_e]
  unfold laws_toWriteS_d
  exact (par_ite (c := 0 ≤ (a0.length : Int) ∧ (a0.length : Int) ≤ (a0.length : Int) ∧ (a0.length : Int) ≤ (VE.maxLen : Int)) ((par_loop laws_toWriteS_bp0 Fuel (a0, (0 : Int), (List.replicate (a0.length : Int).toNat (Ty.zero tWrite)))).bind fun z1 => (par_ret _)) par_none)

def laws_toTxn_d (a0 : dTxn) (k : (Int × Int × Int × Int × Bool × ByteArray × (List dRange) × (List dWrite)) → Option Res) : Option Res :=
  laws_toRangeS_k a0.2.2.2.2.1 (fun y1 =>
    laws_toWriteS_k a0.2.2.2.2.2.1 (fun y2 =>
      k (a0.1, a0.2.1, a0.2.2.1, a0.2.2.2.1, a0.2.2.2.2.2.2.1, a0.2.2.2.2.2.2.2, y1, y2)))

theorem laws_toTxn_h : ∃ g : dTxn → ((Int × Int × Int × Int × Bool × ByteArray × (List dRange) × (List dWrite)) → Option Res) → Option Res, g = laws_toTxn_d := ⟨_, rfl⟩
def laws_toTxn_k : dTxn → ((Int × Int × Int × Int × Bool × ByteArray × (List dRange) × (List dWrite)) → Option Res) → Option Res := Classical.choose laws_toTxn_h
theorem laws_toTxn_e : laws_toTxn_k = laws_toTxn_d := Classical.choose_spec laws_toTxn_h

theorem laws_toTxn_p (a0 : dTxn) : Par (laws_toTxn_k a0) := by
  rw [laws_toTxn_e]
  unfold laws_toTxn_d
  exact ((laws_toRangeS_p a0.2.2.2.2.1).bind fun y1 => ((laws_toWriteS_p a0.2.2.2.2.2.1).bind fun y2 => (par_ret _)))

def laws_toVersion_d (a0 : dVersion) (k : (ByteArray × ByteArray × Bool × Int) → Option Res) : Option Res :=
  k (a0.1, a0.2.1, a0.2.2.1, a0.2.2.2)

theorem laws_toVersion_h : ∃ g : dVersion → ((ByteArray × ByteArray × Bool × Int) → Option Res) → Option Res, g = laws_toVersion_d := ⟨_, rfl⟩
def laws_toVersion_k : dVersion → ((ByteArray × ByteArray × Bool × Int) → Option Res) → Option Res := Classical.choose laws_toVersion_h
theorem laws_toVersion_e : laws_toVersion_k = laws_toVersion_d := Classical.choose_spec laws_toVersion_h

theorem laws_toVersion_p (a0 : dVersion) : Par (laws_toVersion_k a0) := by
  rw [laws_toVersion_e]
  unfold laws_toVersion_d
  exact (par_ret _)

def laws_toVersionS_b0 (x : ((List dVersion) × Int × (List dVersion))) (k : ((List dVersion) × Int × (List dVersion)) ⊕ ((List dVersion) × Int × (List dVersion)) → Option Res) : Option Res :=
    bif (decide (x.2.1 < (x.1.length : Int))) then
      if 0 ≤ x.2.1 ∧ x.2.1 < (x.1.length : Int) then
        laws_toVersion_k (rd (Ty.zero tVersion) x.1 x.2.1) (fun y2 =>
          if 0 ≤ x.2.1 ∧ x.2.1 < (x.2.2.length : Int) then
            k (.inl (x.1, (IntKind.wrap .i64 (x.2.1 + (1 : Int))), (x.2.2.set x.2.1.toNat y2)))
          else none)
      else none
    else
      k (.inr (x.1, x.2.1, x.2.2))

theorem laws_toVersionS_bp0 (x : ((List dVersion) × Int × (List dVersion))) : Par (laws_toVersionS_b0 x) := by
  unfold laws_toVersionS_b0
  exact (par_bif (par_ite (c := 0 ≤ x.2.1 ∧ x.2.1 < (x.1.length : Int)) ((laws_toVersion_p (rd (Ty.zero tVersion) x.1 x.2.1)).bind fun y2 => (par_ite (c := 0 ≤ x.2.1 ∧ x.2.1 < (x.2.2.length : Int)) (par_ret _) par_none)) par_none) (par_ret _))

def laws_toVersionS_d (a0 : (List dVersion)) (k : (List dVersion) → Option Res) : Option Res :=
  if 0 ≤ (a0.length : Int) ∧ (a0.length : Int) ≤ (a0.length : Int) ∧ (a0.length : Int) ≤ (VE.maxLen : Int) then
    loopK laws_toVersionS_b0 Fuel (a0, (0 : Int), (List.replicate (a0.length : Int).toNat (Ty.zero tVersion))) (fun z1 =>
      k z1.2.2)
  else none

theorem laws_toVersionS_h : ∃ g : (List dVersion) → ((List dVersion) → Option Res) → Option Res, g = laws_toVersionS_d := ⟨_, rfl⟩
def laws_toVersionS_k : (List dVersion) → ((List dVersion) → Option Res) → Option Res := Classical.choose laws_toVersionS_h
theorem laws_toVersionS_e : laws_toVersionS_k = laws_toVersionS_d := Classical.choose_spec laws_toVersionS_h

theorem laws_toVersionS_p (a0 : (List dVersion)) : Par (laws_toVersionS_k a0) := by
  rw [laws_toVersionS_e]
  unfold laws_toVersionS_d
  exact (par_ite (c := 0 ≤ (a0.length : Int) ∧ (a0.length : Int) ≤ (a0.length : Int) ∧ (a0.length : Int) ≤ (VE.maxLen : Int)) ((par_loop laws_toVersionS_bp0 Fuel (a0, (0 : Int), (List.replicate (a0.length : Int).toNat (Ty.zero tVersion)))).bind fun z1 => (par_ret _)) par_none)

def spec_InRange_d (a0 : dRange) (a1 : ByteArray) (k : Bool → Option Res) : Option Res :=
  bif (!(strLess a1 a0.1)) then
    k ((strLess a1 a0.2) || (strEq a1 a0.2))
  else
    k false

theorem spec_InRange_h : ∃ g : dRange → ByteArray → (Bool → Option Res) → Option Res, g = spec_InRange_d := ⟨_, rfl⟩
def spec_InRange_k : dRange → ByteArray → (Bool → Option Res) → Option Res := Classical.choose spec_InRange_h
theorem spec_InRange_e : spec_InRange_k = spec_InRange_d := Classical.choose_spec spec_InRange_h

theorem spec_InRange_p (a0 : dRange) (a1 : ByteArray) : Par (spec_InRange_k a0 a1) := by
  rw [spec_InRange_e]
  unfold spec_InRange_d
  exact (par_bif (par_ret _) (par_ret _))

def spec_l06Keys_b2 (x : ((List dVersion) × Int × ByteArray × Int × ByteArray × ByteArray × (List ByteArray) × (List ByteArray))) (k : ((List dVersion) × Int × ByteArray × Int × ByteArray × ByteArray × (List ByteArray) × (List ByteArray)) ⊕ ((List dVersion) × Int × ByteArray × Int × ByteArray × ByteArray × (List ByteArray) × (List ByteArray)) → Option Res) : Option Res :=
    bif (decide (x.2.2.2.1 < (x.2.2.2.2.2.2.1.length : Int))) then
      if 0 ≤ x.2.2.2.1 ∧ x.2.2.2.1 < (x.2.2.2.2.2.2.1.length : Int) then
        bif (strLess (x.2.2.2.2.2.2.1.getD x.2.2.2.1.toNat (Ty.zero .str)) x.2.2.1) then
          if 0 ≤ x.2.2.2.1 ∧ x.2.2.2.1 < (x.2.2.2.2.2.2.1.length : Int) then
            if x.2.2.2.2.2.2.2.length + [(x.2.2.2.2.2.2.1.getD x.2.2.2.1.toNat (Ty.zero .str))].length ≤ VE.maxLen then
              k (.inl (x.1, x.2.1, x.2.2.1, (IntKind.wrap .i64 (x.2.2.2.1 + (1 : Int))), x.2.2.2.2.1, x.2.2.2.2.2.1, x.2.2.2.2.2.2.1, (x.2.2.2.2.2.2.2 ++ [(x.2.2.2.2.2.2.1.getD x.2.2.2.1.toNat (Ty.zero .str))])))
            else none
          else none
        else
          k (.inl (x.1, x.2.1, x.2.2.1, (IntKind.wrap .i64 (x.2.2.2.1 + (1 : Int))), x.2.2.2.2.1, x.2.2.2.2.2.1, x.2.2.2.2.2.2.1, x.2.2.2.2.2.2.2))
      else none
    else
      k (.inr (x.1, x.2.1, x.2.2.1, x.2.2.2.1, x.2.2.2.2.1, x.2.2.2.2.2.1, x.2.2.2.2.2.2.1, x.2.2.2.2.2.2.2))

theorem spec_l06Keys_bp2 (x : ((List dVersion) × Int × ByteArray × Int × ByteArray × ByteArray × (List ByteArray) × (List ByteArray))) : Par (spec_l06Keys_b2 x) := by
  unfold spec_l06Keys_b2
  exact (par_bif (par_ite (c := 0 ≤ x.2.2.2.1 ∧ x.2.2.2.1 < (x.2.2.2.2.2.2.1.length : Int)) (par_bif (par_ite (c := 0 ≤ x.2.2.2.1 ∧ x.2.2.2.1 < (x.2.2.2.2.2.2.1.length : Int)) (par_ite (c := x.2.2.2.2.2.2.2.length + [(x.2.2.2.2.2.2.1.getD x.2.2.2.1.toNat (Ty.zero .str))].length ≤ VE.maxLen) (par_ret _) par_none) par_none) (par_ret _)) par_none) (par_ret _))

def spec_l06Keys_b4 (x : ((List dVersion) × Int × ByteArray × Int × ByteArray × ByteArray × (List ByteArray) × (List ByteArray))) (k : ((List dVersion) × Int × ByteArray × Int × ByteArray × ByteArray × (List ByteArray) × (List ByteArray)) ⊕ ((List dVersion) × Int × ByteArray × Int × ByteArray × ByteArray × (List ByteArray) × (List ByteArray)) → Option Res) : Option Res :=
    bif (decide (x.2.2.2.1 < (x.2.2.2.2.2.2.1.length : Int))) then
      if 0 ≤ x.2.2.2.1 ∧ x.2.2.2.1 < (x.2.2.2.2.2.2.1.length : Int) then
        bif (!((strLess (x.2.2.2.2.2.2.1.getD x.2.2.2.1.toNat (Ty.zero .str)) x.2.2.1) || (strEq (x.2.2.2.2.2.2.1.getD x.2.2.2.1.toNat (Ty.zero .str)) x.2.2.1))) then
          if 0 ≤ x.2.2.2.1 ∧ x.2.2.2.1 < (x.2.2.2.2.2.2.1.length : Int) then
            if x.2.2.2.2.2.2.2.length + [(x.2.2.2.2.2.2.1.getD x.2.2.2.1.toNat (Ty.zero .str))].length ≤ VE.maxLen then
              k (.inl (x.1, x.2.1, x.2.2.1, (IntKind.wrap .i64 (x.2.2.2.1 + (1 : Int))), x.2.2.2.2.1, x.2.2.2.2.2.1, x.2.2.2.2.2.2.1, (x.2.2.2.2.2.2.2 ++ [(x.2.2.2.2.2.2.1.getD x.2.2.2.1.toNat (Ty.zero .str))])))
            else none
          else none
        else
          k (.inl (x.1, x.2.1, x.2.2.1, (IntKind.wrap .i64 (x.2.2.2.1 + (1 : Int))), x.2.2.2.2.1, x.2.2.2.2.2.1, x.2.2.2.2.2.2.1, x.2.2.2.2.2.2.2))
      else none
    else
      k (.inr (x.1, x.2.1, x.2.2.1, x.2.2.2.1, x.2.2.2.2.1, x.2.2.2.2.2.1, x.2.2.2.2.2.2.1, x.2.2.2.2.2.2.2))

theorem spec_l06Keys_bp4 (x : ((List dVersion) × Int × ByteArray × Int × ByteArray × ByteArray × (List ByteArray) × (List ByteArray))) : Par (spec_l06Keys_b4 x) := by
  unfold spec_l06Keys_b4
  exact (par_bif (par_ite (c := 0 ≤ x.2.2.2.1 ∧ x.2.2.2.1 < (x.2.2.2.2.2.2.1.length : Int)) (par_bif (par_ite (c := 0 ≤ x.2.2.2.1 ∧ x.2.2.2.1 < (x.2.2.2.2.2.2.1.length : Int)) (par_ite (c := x.2.2.2.2.2.2.2.length + [(x.2.2.2.2.2.2.1.getD x.2.2.2.1.toNat (Ty.zero .str))].length ≤ VE.maxLen) (par_ret _) par_none) par_none) (par_ret _)) par_none) (par_ret _))

def spec_l06Keys_b0 (x : ((List dVersion) × Int × ByteArray × ByteArray × (List ByteArray))) (k : ((List dVersion) × Int × ByteArray × ByteArray × (List ByteArray)) ⊕ ((List dVersion) × Int × ByteArray × ByteArray × (List ByteArray)) → Option Res) : Option Res :=
    bif (decide (x.2.1 < (x.1.length : Int))) then
      if 0 ≤ x.2.1 ∧ x.2.1 < (x.1.length : Int) then
        spec_InRange_k (x.2.2.1, x.2.2.2.1) ((rd (Ty.zero tVersion) x.1 x.2.1).1) (fun y2 =>
          bif (!y2) then
            k (.inl (x.1, (IntKind.wrap .i64 (x.2.1 + (1 : Int))), x.2.2.1, x.2.2.2.1, x.2.2.2.2))
          else
            loopK spec_l06Keys_b2 Fuel (x.1, x.2.1, (rd (Ty.zero tVersion) x.1 x.2.1).1, (0 : Int), x.2.2.1, x.2.2.2.1, x.2.2.2.2, ([] : List ByteArray)) (fun z3 =>
              if z3.2.2.2.2.2.2.2.length + [z3.2.2.1].length ≤ VE.maxLen then
                loopK spec_l06Keys_b4 Fuel (z3.1, z3.2.1, z3.2.2.1, (0 : Int), z3.2.2.2.2.1, z3.2.2.2.2.2.1, z3.2.2.2.2.2.2.1, (z3.2.2.2.2.2.2.2 ++ [z3.2.2.1])) (fun z4 =>
                  k (.inl (z4.1, (IntKind.wrap .i64 (z4.2.1 + (1 : Int))), z4.2.2.2.2.1, z4.2.2.2.2.2.1, z4.2.2.2.2.2.2.2)))
              else none))
      else none
    else
      k (.inr (x.1, x.2.1, x.2.2.1, x.2.2.2.1, x.2.2.2.2))

theorem spec_l06Keys_bp0 (x : ((List dVersion) × Int × ByteArray × ByteArray × (List ByteArray))) : Par (spec_l06Keys_b0 x) := by
  unfold spec_l06Keys_b0
  exact (par_bif (par_ite (c := 0 ≤ x.2.1 ∧ x.2.1 < (x.1.length : Int)) ((spec_InRange_p (x.2.2.1, x.2.2.2.1) ((rd (Ty.zero tVersion) x.1 x.2.1).1)).bind fun y2 => (par_bif (par_ret _) ((par_loop spec_l06Keys_bp2 Fuel (x.1, x.2.1, (rd (Ty.zero tVersion) x.1 x.2.1).1, (0 : Int), x.2.2.1, x.2.2.2.1, x.2.2.2.2, ([] : List ByteArray))).bind fun z3 => (par_ite (c := z3.2.2.2.2.2.2.2.length + [z3.2.2.1].length ≤ VE.maxLen) ((par_loop spec_l06Keys_bp4 Fuel (z3.1, z3.2.1, z3.2.2.1, (0 : Int), z3.2.2.2.2.1, z3.2.2.2.2.2.1, z3.2.2.2.2.2.2.1, (z3.2.2.2.2.2.2.2 ++ [z3.2.2.1]))).bind fun z4 => (par_ret _)) par_none)))) par_none) (par_ret _))

def spec_l06Keys_d (a0 : (List dVersion)) (a1 : dRange) (k : (List ByteArray) → Option Res) : Option Res :=
  loopK spec_l06Keys_b0 Fuel (a0, (0 : Int), a1.1, a1.2, ([] : List ByteArray)) (fun z1 =>
    k z1.2.2.2.2)

theorem spec_l06Keys_h : ∃ g : (List dVersion) → dRange → ((List ByteArray) → Option Res) → Option Res, g = spec_l06Keys_d := ⟨_, rfl⟩
def spec_l06Keys_k : (List dVersion) → dRange → ((List ByteArray) → Option Res) → Option Res := Classical.choose spec_l06Keys_h
theorem spec_l06Keys_e : spec_l06Keys_k = spec_l06Keys_d := Classical.choose_spec spec_l06Keys_h

theorem spec_l06Keys_p (a0 : (List dVersion)) (a1 : dRange) : Par (spec_l06Keys_k a0 a1) := by
  rw [spec_l06Keys_e]
  unfold spec_l06Keys_d
  exact ((par_loop spec_l06Keys_bp0 Fuel (a0, (0 : Int), a1.1, a1.2, ([] : List ByteArray))).bind fun z1 => (par_ret _))

def spec_l06At_b0 (x : ((List dVersion) × ByteArray × Int × Int × Int)) (k : ((List dVersion) × ByteArray × Int × Int × Int) ⊕ ((List dVersion) × ByteArray × Int × Int × Int) → Option Res) : Option Res :=
    bif (decide (x.2.2.2.2 < (x.1.length : Int))) then
      if 0 ≤ x.2.2.2.2 ∧ x.2.2.2.2 < (x.1.length : Int) then
        bif (strEq ((rd (Ty.zero tVersion) x.1 x.2.2.2.2).1) x.2.1) then
          if 0 ≤ x.2.2.2.2 ∧ x.2.2.2.2 < (x.1.length : Int) then
            bif (decide ((rd (Ty.zero tVersion) x.1 x.2.2.2.2).2.2.2 ≤ x.2.2.1)) then
              bif (decide (x.2.2.2.1 < (0 : Int))) then
                k (.inl (x.1, x.2.1, x.2.2.1, x.2.2.2.2, (IntKind.wrap .i64 (x.2.2.2.2 + (1 : Int)))))
              else
                if 0 ≤ x.2.2.2.2 ∧ x.2.2.2.2 < (x.1.length : Int) then
                  if 0 ≤ x.2.2.2.1 ∧ x.2.2.2.1 < (x.1.length : Int) then
                    bif (decide ((rd (Ty.zero tVersion) x.1 x.2.2.2.2).2.2.2 > (rd (Ty.zero tVersion) x.1 x.2.2.2.1).2.2.2)) then
                      k (.inl (x.1, x.2.1, x.2.2.1, x.2.2.2.2, (IntKind.wrap .i64 (x.2.2.2.2 + (1 : Int)))))
                    else
                      k (.inl (x.1, x.2.1, x.2.2.1, x.2.2.2.1, (IntKind.wrap .i64 (x.2.2.2.2 + (1 : Int)))))
                  else none
                else none
            else
              k (.inl (x.1, x.2.1, x.2.2.1, x.2.2.2.1, (IntKind.wrap .i64 (x.2.2.2.2 + (1 : Int)))))
          else none
        else
          k (.inl (x.1, x.2.1, x.2.2.1, x.2.2.2.1, (IntKind.wrap .i64 (x.2.2.2.2 + (1 : Int)))))
      else none
    else
      k (.inr (x.1, x.2.1, x.2.2.1, x.2.2.2.1, x.2.2.2.2))

theorem spec_l06At_bp0 (x : ((List dVersion) × ByteArray × Int × Int × Int)) : Par (spec_l06At_b0 x) := by
  unfold spec_l06At_b0
  exact (par_bif (par_ite (c := 0 ≤ x.2.2.2.2 ∧ x.2.2.2.2 < (x.1.length : Int)) (par_bif (par_ite (c := 0 ≤ x.2.2.2.2 ∧ x.2.2.2.2 < (x.1.length : Int)) (par_bif (par_bif (par_ret _) (par_ite (c := 0 ≤ x.2.2.2.2 ∧ x.2.2.2.2 < (x.1.length : Int)) (par_ite (c := 0 ≤ x.2.2.2.1 ∧ x.2.2.2.1 < (x.1.length : Int)) (par_bif (par_ret _) (par_ret _)) par_none) par_none)) (par_ret _)) par_none) (par_ret _)) par_none) (par_ret _))

def spec_l06At_d (a0 : (List dVersion)) (a1 : ByteArray) (a2 : Int) (k : Int → Option Res) : Option Res :=
  loopK spec_l06At_b0 Fuel (a0, a1, a2, (-1 : Int), (0 : Int)) (fun z1 =>
    k z1.2.2.2.1)

theorem spec_l06At_h : ∃ g : (List dVersion) → ByteArray → Int → (Int → Option Res) → Option Res, g = spec_l06At_d := ⟨_, rfl⟩
def spec_l06At_k : (List dVersion) → ByteArray → Int → (Int → Option Res) → Option Res := Classical.choose spec_l06At_h
theorem spec_l06At_e : spec_l06At_k = spec_l06At_d := Classical.choose_spec spec_l06At_h

theorem spec_l06At_p (a0 : (List dVersion)) (a1 : ByteArray) (a2 : Int) : Par (spec_l06At_k a0 a1 a2) := by
  rw [spec_l06At_e]
  unfold spec_l06At_d
  exact ((par_loop spec_l06At_bp0 Fuel (a0, a1, a2, (-1 : Int), (0 : Int))).bind fun z1 => (par_ret _))

def spec_SeenAt_d (a0 : (List dVersion)) (a1 : ByteArray) (a2 : Int) (k : (ByteArray × Bool) → Option Res) : Option Res :=
  spec_l06At_k a0 a1 a2 (fun y1 =>
    bif (decide (y1 < (0 : Int))) then
      k ((⟨#[]⟩ : ByteArray), false)
    else
      if 0 ≤ y1 ∧ y1 < (a0.length : Int) then
        bif (rd (Ty.zero tVersion) a0 y1).2.2.1 then
          k ((⟨#[]⟩ : ByteArray), false)
        else
          if 0 ≤ y1 ∧ y1 < (a0.length : Int) then
            k ((rd (Ty.zero tVersion) a0 y1).2.1, true)
          else none
      else none)

theorem spec_SeenAt_h : ∃ g : (List dVersion) → ByteArray → Int → ((ByteArray × Bool) → Option Res) → Option Res, g = spec_SeenAt_d := ⟨_, rfl⟩
def spec_SeenAt_k : (List dVersion) → ByteArray → Int → ((ByteArray × Bool) → Option Res) → Option Res := Classical.choose spec_SeenAt_h
theorem spec_SeenAt_e : spec_SeenAt_k = spec_SeenAt_d := Classical.choose_spec spec_SeenAt_h

theorem spec_SeenAt_p (a0 : (List dVersion)) (a1 : ByteArray) (a2 : Int) : Par (spec_SeenAt_k a0 a1 a2) := by
  rw [spec_SeenAt_e]
  unfold spec_SeenAt_d
  exact ((spec_l06At_p a0 a1 a2).bind fun y1 => (par_bif (par_ret _) (par_ite (c := 0 ≤ y1 ∧ y1 < (a0.length : Int)) (par_bif (par_ret _) (par_ite (c := 0 ≤ y1 ∧ y1 < (a0.length : Int)) (par_ret _) par_none)) par_none)))

def spec_OwnGet_b0 (x : ((List dVersion) × ByteArray × ByteArray × Bool × Int × Int × Int × Int × Int × (List dRange) × (List dWrite) × Bool × ByteArray)) (k : ((List dVersion) × ByteArray × ByteArray × Bool × Int × Int × Int × Int × Int × (List dRange) × (List dWrite) × Bool × ByteArray) ⊕ (((List dVersion) × ByteArray × ByteArray × Bool × Int × Int × Int × Int × Int × (List dRange) × (List dWrite) × Bool × ByteArray) ⊕ ((List dVersion) × ByteArray × ByteArray × Bool × Int × Int × Int × Int × Int × (List dRange) × (List dWrite) × Bool × ByteArray)) → Option Res) : Option Res :=
    bif (decide (x.2.2.2.2.1 < (x.2.2.2.2.2.2.2.2.2.2.1.length : Int))) then
      if 0 ≤ x.2.2.2.2.1 ∧ x.2.2.2.2.1 < (x.2.2.2.2.2.2.2.2.2.2.1.length : Int) then
        bif (strEq ((rd (Ty.zero tWrite) x.2.2.2.2.2.2.2.2.2.2.1 x.2.2.2.2.1).1) x.2.1) then
          if 0 ≤ x.2.2.2.2.1 ∧ x.2.2.2.2.1 < (x.2.2.2.2.2.2.2.2.2.2.1.length : Int) then
            bif (rd (Ty.zero tWrite) x.2.2.2.2.2.2.2.2.2.2.1 x.2.2.2.2.1).2.2 then
              k (.inr (.inl (x.1, x.2.1, (⟨#[]⟩ : ByteArray), false, x.2.2.2.2.1, x.2.2.2.2.2.1, x.2.2.2.2.2.2.1, x.2.2.2.2.2.2.2.1, x.2.2.2.2.2.2.2.2.1, x.2.2.2.2.2.2.2.2.2.1, x.2.2.2.2.2.2.2.2.2.2.1, x.2.2.2.2.2.2.2.2.2.2.2.1, x.2.2.2.2.2.2.2.2.2.2.2.2)))
            else
              if 0 ≤ x.2.2.2.2.1 ∧ x.2.2.2.2.1 < (x.2.2.2.2.2.2.2.2.2.2.1.length : Int) then
                k (.inr (.inl (x.1, x.2.1, (rd (Ty.zero tWrite) x.2.2.2.2.2.2.2.2.2.2.1 x.2.2.2.2.1).2.1, true, x.2.2.2.2.1, x.2.2.2.2.2.1, x.2.2.2.2.2.2.1, x.2.2.2.2.2.2.2.1, x.2.2.2.2.2.2.2.2.1, x.2.2.2.2.2.2.2.2.2.1, x.2.2.2.2.2.2.2.2.2.2.1, x.2.2.2.2.2.2.2.2.2.2.2.1, x.2.2.2.2.2.2.2.2.2.2.2.2)))
              else none
          else none
        else
          k (.inl (x.1, x.2.1, x.2.2.1, x.2.2.2.1, (IntKind.wrap .i64 (x.2.2.2.2.1 + (1 : Int))), x.2.2.2.2.2.1, x.2.2.2.2.2.2.1, x.2.2.2.2.2.2.2.1, x.2.2.2.2.2.2.2.2.1, x.2.2.2.2.2.2.2.2.2.1, x.2.2.2.2.2.2.2.2.2.2.1, x.2.2.2.2.2.2.2.2.2.2.2.1, x.2.2.2.2.2.2.2.2.2.2.2.2))
      else none
    else
      k (.inr (.inr (x.1, x.2.1, x.2.2.1, x.2.2.2.1, x.2.2.2.2.1, x.2.2.2.2.2.1, x.2.2.2.2.2.2.1, x.2.2.2.2.2.2.2.1, x.2.2.2.2.2.2.2.2.1, x.2.2.2.2.2.2.2.2.2.1, x.2.2.2.2.2.2.2.2.2.2.1, x.2.2.2.2.2.2.2.2.2.2.2.1, x.2.2.2.2.2.2.2.2.2.2.2.2)))

theorem spec_OwnGet_bp0 (x : ((List dVersion) × ByteArray × ByteArray × Bool × Int × Int × Int × Int × Int × (List dRange) × (List dWrite) × Bool × ByteArray)) : Par (spec_OwnGet_b0 x) := by
  unfold spec_OwnGet_b0
  exact (par_bif (par_ite (c := 0 ≤ x.2.2.2.2.1 ∧ x.2.2.2.2.1 < (x.2.2.2.2.2.2.2.2.2.2.1.length : Int)) (par_bif (par_ite (c := 0 ≤ x.2.2.2.2.1 ∧ x.2.2.2.2.1 < (x.2.2.2.2.2.2.2.2.2.2.1.length : Int)) (par_bif (par_ret _) (par_ite (c := 0 ≤ x.2.2.2.2.1 ∧ x.2.2.2.2.1 < (x.2.2.2.2.2.2.2.2.2.2.1.length : Int)) (par_ret _) par_none)) par_none) (par_ret _)) par_none) (par_ret _))

def spec_OwnGet_d (a0 : dTxn) (a1 : (List dVersion)) (a2 : ByteArray) (k : (ByteArray × Bool) → Option Res) : Option Res :=
  loopK spec_OwnGet_b0 Fuel (a1, a2, (⟨#[]⟩ : ByteArray), false, (0 : Int), a0.1, a0.2.1, a0.2.2.1, a0.2.2.2.1, a0.2.2.2.2.1, a0.2.2.2.2.2.1, a0.2.2.2.2.2.2.1, a0.2.2.2.2.2.2.2) (Sum.elim (fun z1 =>
    k (z1.2.2.1, z1.2.2.2.1)) (fun z2 =>
    spec_SeenAt_k z2.1 z2.2.1 z2.2.2.2.2.2.2.2.1 (fun y3 =>
      k (y3.1, y3.2))))

theorem spec_OwnGet_h : ∃ g : dTxn → (List dVersion) → ByteArray → ((ByteArray × Bool) → Option Res) → Option Res, g = spec_OwnGet_d := ⟨_, rfl⟩
def spec_OwnGet_k : dTxn → (List dVersion) → ByteArray → ((ByteArray × Bool) → Option Res) → Option Res := Classical.choose spec_OwnGet_h
theorem spec_OwnGet_e : spec_OwnGet_k = spec_OwnGet_d := Classical.choose_spec spec_OwnGet_h

theorem spec_OwnGet_p (a0 : dTxn) (a1 : (List dVersion)) (a2 : ByteArray) : Par (spec_OwnGet_k a0 a1 a2) := by
  rw [spec_OwnGet_e]
  unfold spec_OwnGet_d
  exact ((par_loop spec_OwnGet_bp0 Fuel (a1, a2, (⟨#[]⟩ : ByteArray), false, (0 : Int), a0.1, a0.2.1, a0.2.2.1, a0.2.2.2.1, a0.2.2.2.2.1, a0.2.2.2.2.2.1, a0.2.2.2.2.2.2.1, a0.2.2.2.2.2.2.2)).bind2 (fun z1 => (par_ret _)) (fun z2 => ((spec_SeenAt_p z2.1 z2.2.1 z2.2.2.2.2.2.2.2.1).bind fun y3 => (par_ret _))))

def spec_OwnScan_b0 (x : ((List dVersion) × Int × Int × Int × Int × Int × (List dRange) × (List dWrite) × Bool × ByteArray × ByteArray × ByteArray × (List dVersion))) (k : ((List dVersion) × Int × Int × Int × Int × Int × (List dRange) × (List dWrite) × Bool × ByteArray × ByteArray × ByteArray × (List dVersion)) ⊕ ((List dVersion) × Int × Int × Int × Int × Int × (List dRange) × (List dWrite) × Bool × ByteArray × ByteArray × ByteArray × (List dVersion)) → Option Res) : Option Res :=
    bif (decide (x.2.1 < (x.2.2.2.2.2.2.2.1.length : Int))) then
      if 0 ≤ x.2.1 ∧ x.2.1 < (x.2.2.2.2.2.2.2.1.length : Int) then
        if x.2.2.2.2.2.2.2.2.2.2.2.2.length + [((rd (Ty.zero tWrite) x.2.2.2.2.2.2.2.1 x.2.1).1, ((⟨#[]⟩ : ByteArray), (false, (0 : Int))))].length ≤ VE.maxLen then
          k (.inl (x.1, (IntKind.wrap .i64 (x.2.1 + (1 : Int))), x.2.2.1, x.2.2.2.1, x.2.2.2.2.1, x.2.2.2.2.2.1, x.2.2.2.2.2.2.1, x.2.2.2.2.2.2.2.1, x.2.2.2.2.2.2.2.2.1, x.2.2.2.2.2.2.2.2.2.1, x.2.2.2.2.2.2.2.2.2.2.1, x.2.2.2.2.2.2.2.2.2.2.2.1, (x.2.2.2.2.2.2.2.2.2.2.2.2 ++ [((rd (Ty.zero tWrite) x.2.2.2.2.2.2.2.1 x.2.1).1, ((⟨#[]⟩ : ByteArray), (false, (0 : Int))))])))
        else none
      else none
    else
      k (.inr (x.1, x.2.1, x.2.2.1, x.2.2.2.1, x.2.2.2.2.1, x.2.2.2.2.2.1, x.2.2.2.2.2.2.1, x.2.2.2.2.2.2.2.1, x.2.2.2.2.2.2.2.2.1, x.2.2.2.2.2.2.2.2.2.1, x.2.2.2.2.2.2.2.2.2.2.1, x.2.2.2.2.2.2.2.2.2.2.2.1, x.2.2.2.2.2.2.2.2.2.2.2.2))

theorem spec_OwnScan_bp0 (x : ((List dVersion) × Int × Int × Int × Int × Int × (List dRange) × (List dWrite) × Bool × ByteArray × ByteArray × ByteArray × (List dVersion))) : Par (spec_OwnScan_b0 x) := by
  unfold spec_OwnScan_b0
  exact (par_bif (par_ite (c := 0 ≤ x.2.1 ∧ x.2.1 < (x.2.2.2.2.2.2.2.1.length : Int)) (par_ite (c := x.2.2.2.2.2.2.2.2.2.2.2.2.length + [((rd (Ty.zero tWrite) x.2.2.2.2.2.2.2.1 x.2.1).1, ((⟨#[]⟩ : ByteArray), (false, (0 : Int))))].length ≤ VE.maxLen) (par_ret _) par_none) par_none) (par_ret _))

def spec_OwnScan_b2 (x : ((List dVersion) × Int × Int × Int × Int × Int × (List dRange) × (List dWrite) × Bool × ByteArray × (List dRange) × (List ByteArray))) (k : ((List dVersion) × Int × Int × Int × Int × Int × (List dRange) × (List dWrite) × Bool × ByteArray × (List dRange) × (List ByteArray)) ⊕ ((List dVersion) × Int × Int × Int × Int × Int × (List dRange) × (List dWrite) × Bool × ByteArray × (List dRange) × (List ByteArray)) → Option Res) : Option Res :=
    bif (decide (x.2.1 < (x.2.2.2.2.2.2.2.2.2.2.2.length : Int))) then
      if 0 ≤ x.2.1 ∧ x.2.1 < (x.2.2.2.2.2.2.2.2.2.2.2.length : Int) then
        spec_OwnGet_k (x.2.2.1, (x.2.2.2.1, (x.2.2.2.2.1, (x.2.2.2.2.2.1, (x.2.2.2.2.2.2.1, (x.2.2.2.2.2.2.2.1, (x.2.2.2.2.2.2.2.2.1, x.2.2.2.2.2.2.2.2.2.1))))))) x.1 (x.2.2.2.2.2.2.2.2.2.2.2.getD x.2.1.toNat (Ty.zero .str)) (fun y4 =>
          bif y4.2 then
            if 0 ≤ x.2.1 ∧ x.2.1 < (x.2.2.2.2.2.2.2.2.2.2.2.length : Int) then
              if x.2.2.2.2.2.2.2.2.2.2.1.length + [((x.2.2.2.2.2.2.2.2.2.2.2.getD x.2.1.toNat (Ty.zero .str)), y4.1)].length ≤ VE.maxLen then
                k (.inl (x.1, (IntKind.wrap .i64 (x.2.1 + (1 : Int))), x.2.2.1, x.2.2.2.1, x.2.2.2.2.1, x.2.2.2.2.2.1, x.2.2.2.2.2.2.1, x.2.2.2.2.2.2.2.1, x.2.2.2.2.2.2.2.2.1, x.2.2.2.2.2.2.2.2.2.1, (x.2.2.2.2.2.2.2.2.2.2.1 ++ [((x.2.2.2.2.2.2.2.2.2.2.2.getD x.2.1.toNat (Ty.zero .str)), y4.1)]), x.2.2.2.2.2.2.2.2.2.2.2))
              else none
            else none
          else
            k (.inl (x.1, (IntKind.wrap .i64 (x.2.1 + (1 : Int))), x.2.2.1, x.2.2.2.1, x.2.2.2.2.1, x.2.2.2.2.2.1, x.2.2.2.2.2.2.1, x.2.2.2.2.2.2.2.1, x.2.2.2.2.2.2.2.2.1, x.2.2.2.2.2.2.2.2.2.1, x.2.2.2.2.2.2.2.2.2.2.1, x.2.2.2.2.2.2.2.2.2.2.2)))
      else none
    else
      k (.inr (x.1, x.2.1, x.2.2.1, x.2.2.2.1, x.2.2.2.2.1, x.2.2.2.2.2.1, x.2.2.2.2.2.2.1, x.2.2.2.2.2.2.2.1, x.2.2.2.2.2.2.2.2.1, x.2.2.2.2.2.2.2.2.2.1, x.2.2.2.2.2.2.2.2.2.2.1, x.2.2.2.2.2.2.2.2.2.2.2))

theorem spec_OwnScan_bp2 (x : ((List dVersion) × Int × Int × Int × Int × Int × (List dRange) × (List dWrite) × Bool × ByteArray × (List dRange) × (List ByteArray))) : Par (spec_OwnScan_b2 x) := by
  unfold spec_OwnScan_b2
  exact (par_bif (par_ite (c := 0 ≤ x.2.1 ∧ x.2.1 < (x.2.2.2.2.2.2.2.2.2.2.2.length : Int)) ((spec_OwnGet_p (x.2.2.1, (x.2.2.2.1, (x.2.2.2.2.1, (x.2.2.2.2.2.1, (x.2.2.2.2.2.2.1, (x.2.2.2.2.2.2.2.1, (x.2.2.2.2.2.2.2.2.1, x.2.2.2.2.2.2.2.2.2.1))))))) x.1 (x.2.2.2.2.2.2.2.2.2.2.2.getD x.2.1.toNat (Ty.zero .str))).bind fun y4 => (par_bif (par_ite (c := 0 ≤ x.2.1 ∧ x.2.1 < (x.2.2.2.2.2.2.2.2.2.2.2.length : Int)) (par_ite (c := x.2.2.2.2.2.2.2.2.2.2.1.length + [((x.2.2.2.2.2.2.2.2.2.2.2.getD x.2.1.toNat (Ty.zero .str)), y4.1)].length ≤ VE.maxLen) (par_ret _) par_none) par_none) (par_ret _))) par_none) (par_ret _))

def spec_OwnScan_d (a0 : dTxn) (a1 : (List dVersion)) (a2 : dRange) (k : (List dRange) → Option Res) : Option Res :=
  if ([] : List dVersion).length + a1.length ≤ VE.maxLen then
    loopK spec_OwnScan_b0 Fuel (a1, (0 : Int), a0.1, a0.2.1, a0.2.2.1, a0.2.2.2.1, a0.2.2.2.2.1, a0.2.2.2.2.2.1, a0.2.2.2.2.2.2.1, a0.2.2.2.2.2.2.2, a2.1, a2.2, (([] : List dVersion) ++ a1)) (fun z1 =>
      spec_l06Keys_k z1.2.2.2.2.2.2.2.2.2.2.2.2 (z1.2.2.2.2.2.2.2.2.2.2.1, z1.2.2.2.2.2.2.2.2.2.2.2.1) (fun y2 =>
        loopK spec_OwnScan_b2 Fuel (z1.1, (0 : Int), z1.2.2.1, z1.2.2.2.1, z1.2.2.2.2.1, z1.2.2.2.2.2.1, z1.2.2.2.2.2.2.1, z1.2.2.2.2.2.2.2.1, z1.2.2.2.2.2.2.2.2.1, z1.2.2.2.2.2.2.2.2.2.1, ([] : List dRange), y2) (fun z3 =>
          k z3.2.2.2.2.2.2.2.2.2.2.1)))
  else none

theorem spec_OwnScan_h : ∃ g : dTxn → (List dVersion) → dRange → ((List dRange) → Option Res) → Option Res, g = spec_OwnScan_d := ⟨_, rfl⟩
def spec_OwnScan_k : dTxn → (List dVersion) → dRange → ((List dRange) → Option Res) → Option Res := Classical.choose spec_OwnScan_h
theorem spec_OwnScan_e : spec_OwnScan_k = spec_OwnScan_d := Classical.choose_spec spec_OwnScan_h

theorem spec_OwnScan_p (a0 : dTxn) (a1 : (List dVersion)) (a2 : dRange) : Par (spec_OwnScan_k a0 a1 a2) := by
  rw [spec_OwnScan_e]
  unfold spec_OwnScan_d
  exact (par_ite (c := ([] : List dVersion).length + a1.length ≤ VE.maxLen) ((par_loop spec_OwnScan_bp0 Fuel (a1, (0 : Int), a0.1, a0.2.1, a0.2.2.1, a0.2.2.2.1, a0.2.2.2.2.1, a0.2.2.2.2.2.1, a0.2.2.2.2.2.2.1, a0.2.2.2.2.2.2.2, a2.1, a2.2, (([] : List dVersion) ++ a1))).bind fun z1 => ((spec_l06Keys_p z1.2.2.2.2.2.2.2.2.2.2.2.2 (z1.2.2.2.2.2.2.2.2.2.2.1, z1.2.2.2.2.2.2.2.2.2.2.2.1)).bind fun y2 => ((par_loop spec_OwnScan_bp2 Fuel (z1.1, (0 : Int), z1.2.2.1, z1.2.2.2.1, z1.2.2.2.2.1, z1.2.2.2.2.2.1, z1.2.2.2.2.2.2.1, z1.2.2.2.2.2.2.2.1, z1.2.2.2.2.2.2.2.2.1, z1.2.2.2.2.2.2.2.2.2.1, ([] : List dRange), y2)).bind fun z3 => (par_ret _)))) par_none)

def slices_Sort_string_vo_d (a0 : (List ByteArray)) (k : (List ByteArray) → Option Res) : Option Res :=
  if a0.length ≤ 1000000000 then
    k (sortL a0)
  else none

theorem slices_Sort_string_vo_h : ∃ g : (List ByteArray) → ((List ByteArray) → Option Res) → Option Res, g = slices_Sort_string_vo_d := ⟨_, rfl⟩
def slices_Sort_string_vo_k : (List ByteArray) → ((List ByteArray) → Option Res) → Option Res := Classical.choose slices_Sort_string_vo_h
theorem slices_Sort_string_vo_e : slices_Sort_string_vo_k = slices_Sort_string_vo_d := Classical.choose_spec slices_Sort_string_vo_h

theorem slices_Sort_string_vo_p (a0 : (List ByteArray)) : Par (slices_Sort_string_vo_k a0) := by
  rw [slices_Sort_string_vo_e]
  unfold slices_Sort_string_vo_d
  exact (par_ite (c := a0.length ≤ 1000000000) (par_ret _) par_none)

def slices_Compact_string_vo_b2 (x : (Int × Nat × Int × (List ByteArray))) (k : (Int × Nat × Int × (List ByteArray)) ⊕ (Int × Nat × Int × (List ByteArray)) → Option Res) : Option Res :=
    bif (decide (x.2.2.1 < ((x.2.2.2.length : Int) - ((x.2.1 : Nat) : Int)))) then
      if 0 ≤ x.2.2.1 ∧ x.2.2.1 < (x.2.2.2.length : Int) - ((x.2.1 : Nat) : Int) then
        if 0 ≤ (IntKind.wrap .i64 (x.2.2.1 - (1 : Int))) ∧ (IntKind.wrap .i64 (x.2.2.1 - (1 : Int))) < (x.2.2.2.length : Int) - ((x.2.1 : Nat) : Int) then
          bif (!(strEq (x.2.2.2.getD (x.2.1 + x.2.2.1.toNat) (Ty.zero .str)) (x.2.2.2.getD (x.2.1 + (IntKind.wrap .i64 (x.2.2.1 - (1 : Int))).toNat) (Ty.zero .str)))) then
            if 0 ≤ x.2.2.1 ∧ x.2.2.1 < (x.2.2.2.length : Int) - ((x.2.1 : Nat) : Int) then
              if 0 ≤ x.1 ∧ x.1 < (x.2.2.2.length : Int) then
                k (.inl ((IntKind.wrap .i64 (x.1 + (1 : Int))), x.2.1, (IntKind.wrap .i64 (x.2.2.1 + (1 : Int))), (x.2.2.2.set x.1.toNat (x.2.2.2.getD (x.2.1 + x.2.2.1.toNat) (Ty.zero .str)))))
              else none
            else none
          else
            k (.inl (x.1, x.2.1, (IntKind.wrap .i64 (x.2.2.1 + (1 : Int))), x.2.2.2))
        else none
      else none
    else
      k (.inr (x.1, x.2.1, x.2.2.1, x.2.2.2))

theorem slices_Compact_string_vo_bp2 (x : (Int × Nat × Int × (List ByteArray))) : Par (slices_Compact_string_vo_b2 x) := by
  unfold slices_Compact_string_vo_b2
  exact (par_bif (par_ite (c := 0 ≤ x.2.2.1 ∧ x.2.2.1 < (x.2.2.2.length : Int) - ((x.2.1 : Nat) : Int)) (par_ite (c := 0 ≤ (IntKind.wrap .i64 (x.2.2.1 - (1 : Int))) ∧ (IntKind.wrap .i64 (x.2.2.1 - (1 : Int))) < (x.2.2.2.length : Int) - ((x.2.1 : Nat) : Int)) (par_bif (par_ite (c := 0 ≤ x.2.2.1 ∧ x.2.2.1 < (x.2.2.2.length : Int) - ((x.2.1 : Nat) : Int)) (par_ite (c := 0 ≤ x.1 ∧ x.1 < (x.2.2.2.length : Int)) (par_ret _) par_none) par_none) (par_ret _)) par_none) par_none) (par_ret _))

def slices_Compact_string_vo_b0 (x : (Int × (List ByteArray) × (List ByteArray))) (k : (Int × (List ByteArray) × (List ByteArray)) ⊕ ((Int × (List ByteArray) × (List ByteArray)) ⊕ (Int × (List ByteArray))) → Option Res) : Option Res :=
    bif (decide (x.1 < (x.2.1.length : Int))) then
      if 0 ≤ x.1 ∧ x.1 < (x.2.1.length : Int) then
        if 0 ≤ (IntKind.wrap .i64 (x.1 - (1 : Int))) ∧ (IntKind.wrap .i64 (x.1 - (1 : Int))) < (x.2.1.length : Int) then
          bif (strEq (x.2.1.getD x.1.toNat (Ty.zero .str)) (x.2.1.getD (IntKind.wrap .i64 (x.1 - (1 : Int))).toNat (Ty.zero .str))) then
            if 0 ≤ x.1 ∧ x.1 ≤ (x.2.1.length : Int) then
              loopK slices_Compact_string_vo_b2 Fuel (x.1, x.1.toNat, (1 : Int), x.2.1) (fun z3 =>
                if 0 ≤ z3.1 ∧ z3.1 ≤ (z3.2.2.2.length : Int) then
                  if 0 ≤ z3.1 ∧ z3.1 ≤ ((z3.2.2.2.take z3.1.toNat ++ List.replicate (z3.2.2.2.length - z3.1.toNat) (Ty.zero .str)).length : Int) then
                    k (.inr (.inr (z3.1, ((z3.2.2.2.take z3.1.toNat ++ List.replicate (z3.2.2.2.length - z3.1.toNat) (Ty.zero .str)).take z3.1.toNat))))
                  else none
                else none)
            else none
          else
            k (.inl ((IntKind.wrap .i64 (x.1 + (1 : Int))), x.2.1, x.2.2))
        else none
      else none
    else
      k (.inr (.inl (x.1, x.2.1, x.2.2)))

theorem slices_Compact_string_vo_bp0 (x : (Int × (List ByteArray) × (List ByteArray))) : Par (slices_Compact_string_vo_b0 x) := by
  unfold slices_Compact_string_vo_b0
  exact (par_bif (par_ite (c := 0 ≤ x.1 ∧ x.1 < (x.2.1.length : Int)) (par_ite (c := 0 ≤ (IntKind.wrap .i64 (x.1 - (1 : Int))) ∧ (IntKind.wrap .i64 (x.1 - (1 : Int))) < (x.2.1.length : Int)) (par_bif (par_ite (c := 0 ≤ x.1 ∧ x.1 ≤ (x.2.1.length : Int)) ((par_loop slices_Compact_string_vo_bp2 Fuel (x.1, x.1.toNat, (1 : Int), x.2.1)).bind fun z3 => (par_ite (c := 0 ≤ z3.1 ∧ z3.1 ≤ (z3.2.2.2.length : Int)) (par_ite (c := 0 ≤ z3.1 ∧ z3.1 ≤ ((z3.2.2.2.take z3.1.toNat ++ List.replicate (z3.2.2.2.length - z3.1.toNat) (Ty.zero .str)).length : Int)) (par_ret _) par_none) par_none)) par_none) (par_ret _)) par_none) par_none) (par_ret _))

def slices_Compact_string_vo_d (a0 : (List ByteArray)) (k : ((List ByteArray) ⊕ (List ByteArray)) → Option Res) : Option Res :=
  bif (decide ((a0.length : Int) < (2 : Int))) then
    k (.inl a0)
  else
    loopK slices_Compact_string_vo_b0 Fuel ((1 : Int), a0, ([] : List ByteArray)) (Sum.elim (fun z1 =>
      k (.inl z1.2.1)) (fun z2 =>
      k (.inr z2.2)))

theorem slices_Compact_string_vo_h : ∃ g : (List ByteArray) → (((List ByteArray) ⊕ (List ByteArray)) → Option Res) → Option Res, g = slices_Compact_string_vo_d := ⟨_, rfl⟩
def slices_Compact_string_vo_k : (List ByteArray) → (((List ByteArray) ⊕ (List ByteArray)) → Option Res) → Option Res := Classical.choose slices_Compact_string_vo_h
theorem slices_Compact_string_vo_e : slices_Compact_string_vo_k = slices_Compact_string_vo_d := Classical.choose_spec slices_Compact_string_vo_h

theorem slices_Compact_string_vo_p (a0 : (List ByteArray)) : Par (slices_Compact_string_vo_k a0) := by
  rw [slices_Compact_string_vo_e]
  unfold slices_Compact_string_vo_d
  exact (par_bif (par_ret _) ((par_loop slices_Compact_string_vo_bp0 Fuel ((1 : Int), a0, ([] : List ByteArray))).bind2 (fun z1 => (par_ret _)) (fun z2 => (par_ret _))))

def impl_keysOf_b0 (x : ((List dVersion) × Int × Int × (List ByteArray))) (k : ((List dVersion) × Int × Int × (List ByteArray)) ⊕ ((List dVersion) × Int × Int × (List ByteArray)) → Option Res) : Option Res :=
    bif (decide (x.2.2.1 < x.2.1)) then
      if 0 ≤ x.2.2.1 ∧ x.2.2.1 < (x.1.length : Int) then
        if x.2.2.2.length + [(rd (Ty.zero tVersion) x.1 x.2.2.1).1].length ≤ VE.maxLen then
          k (.inl (x.1, x.2.1, (IntKind.wrap .i64 (x.2.2.1 + (1 : Int))), (x.2.2.2 ++ [(rd (Ty.zero tVersion) x.1 x.2.2.1).1])))
        else none
      else none
    else
      k (.inr (x.1, x.2.1, x.2.2.1, x.2.2.2))

theorem impl_keysOf_bp0 (x : ((List dVersion) × Int × Int × (List ByteArray))) : Par (impl_keysOf_b0 x) := by
  unfold impl_keysOf_b0
  exact (par_bif (par_ite (c := 0 ≤ x.2.2.1 ∧ x.2.2.1 < (x.1.length : Int)) (par_ite (c := x.2.2.2.length + [(rd (Ty.zero tVersion) x.1 x.2.2.1).1].length ≤ VE.maxLen) (par_ret _) par_none) par_none) (par_ret _))

def impl_keysOf_d (a0 : (List dVersion)) (k : (List ByteArray) → Option Res) : Option Res :=
  loopK impl_keysOf_b0 Fuel (a0, (a0.length : Int), (0 : Int), ([] : List ByteArray)) (fun z1 =>
    slices_Sort_string_vo_k z1.2.2.2 (fun y2 =>
      slices_Compact_string_vo_k y2 (Sum.elim (fun y3 =>
        k y3) (fun y4 =>
        k y4))))

theorem impl_keysOf_h : ∃ g : (List dVersion) → ((List ByteArray) → Option Res) → Option Res, g = impl_keysOf_d := ⟨_, rfl⟩
def impl_keysOf_k : (List dVersion) → ((List ByteArray) → Option Res) → Option Res := Classical.choose impl_keysOf_h
theorem impl_keysOf_e : impl_keysOf_k = impl_keysOf_d := Classical.choose_spec impl_keysOf_h

theorem impl_keysOf_p (a0 : (List dVersion)) : Par (impl_keysOf_k a0) := by
  rw [impl_keysOf_e]
  unfold impl_keysOf_d
  exact ((par_loop impl_keysOf_bp0 Fuel (a0, (a0.length : Int), (0 : Int), ([] : List ByteArray))).bind fun z1 => ((slices_Sort_string_vo_p z1.2.2.2).bind fun y2 => ((slices_Compact_string_vo_p y2).bind2 (fun y3 => (par_ret _)) (fun y4 => (par_ret _)))))

def impl_ownAt_1_d (a0 : dWrite) (a1 : ByteArray) (k : (Bool × ByteArray) → Option Res) : Option Res :=
  k ((strEq a0.1 a1), a1)

theorem impl_ownAt_1_h : ∃ g : dWrite → ByteArray → ((Bool × ByteArray) → Option Res) → Option Res, g = impl_ownAt_1_d := ⟨_, rfl⟩
def impl_ownAt_1_k : dWrite → ByteArray → ((Bool × ByteArray) → Option Res) → Option Res := Classical.choose impl_ownAt_1_h
theorem impl_ownAt_1_e : impl_ownAt_1_k = impl_ownAt_1_d := Classical.choose_spec impl_ownAt_1_h

theorem impl_ownAt_1_p (a0 : dWrite) (a1 : ByteArray) : Par (impl_ownAt_1_k a0 a1) := by
  rw [impl_ownAt_1_e]
  unfold impl_ownAt_1_d
  exact (par_ret _)

def slices_IndexFunc_Write_ownAt_1_b0 (x : ((List dWrite) × Int × Int × Int × ByteArray)) (k : ((List dWrite) × Int × Int × Int × ByteArray) ⊕ (((List dWrite) × Int × Int × Int × ByteArray) ⊕ ((List dWrite) × Int × Int × Int × ByteArray)) → Option Res) : Option Res :=
    bif (decide (x.2.2.2.1 < x.2.2.1)) then
      if 0 ≤ x.2.2.2.1 ∧ x.2.2.2.1 < (x.1.length : Int) then
        impl_ownAt_1_k (rd (Ty.zero tWrite) x.1 x.2.2.2.1) x.2.2.2.2 (fun y3 =>
          bif y3.1 then
            k (.inr (.inl (x.1, x.2.2.2.1, x.2.2.1, x.2.2.2.1, y3.2)))
          else
            k (.inl (x.1, x.2.1, x.2.2.1, (IntKind.wrap .i64 (x.2.2.2.1 + (1 : Int))), y3.2)))
      else none
    else
      k (.inr (.inr (x.1, x.2.1, x.2.2.1, x.2.2.2.1, x.2.2.2.2)))

theorem slices_IndexFunc_Write_ownAt_1_bp0 (x : ((List dWrite) × Int × Int × Int × ByteArray)) : Par (slices_IndexFunc_Write_ownAt_1_b0 x) := by
  unfold slices_IndexFunc_Write_ownAt_1_b0
  exact (par_bif (par_ite (c := 0 ≤ x.2.2.2.1 ∧ x.2.2.2.1 < (x.1.length : Int)) ((impl_ownAt_1_p (rd (Ty.zero tWrite) x.1 x.2.2.2.1) x.2.2.2.2).bind fun y3 => (par_bif (par_ret _) (par_ret _))) par_none) (par_ret _))

def slices_IndexFunc_Write_ownAt_1_d (a0 : (List dWrite)) (a1 : ByteArray) (k : (Int × ByteArray) → Option Res) : Option Res :=
  loopK slices_IndexFunc_Write_ownAt_1_b0 Fuel (a0, (0 : Int), (a0.length : Int), (0 : Int), a1) (Sum.elim (fun z1 =>
    k (z1.2.1, z1.2.2.2.2)) (fun z2 =>
    k ((-1 : Int), z2.2.2.2.2)))

theorem slices_IndexFunc_Write_ownAt_1_h : ∃ g : (List dWrite) → ByteArray → ((Int × ByteArray) → Option Res) → Option Res, g = slices_IndexFunc_Write_ownAt_1_d := ⟨_, rfl⟩
def slices_IndexFunc_Write_ownAt_1_k : (List dWrite) → ByteArray → ((Int × ByteArray) → Option Res) → Option Res := Classical.choose slices_IndexFunc_Write_ownAt_1_h
theorem slices_IndexFunc_Write_ownAt_1_e : slices_IndexFunc_Write_ownAt_1_k = slices_IndexFunc_Write_ownAt_1_d := Classical.choose_spec slices_IndexFunc_Write_ownAt_1_h

theorem slices_IndexFunc_Write_ownAt_1_p (a0 : (List dWrite)) (a1 : ByteArray) : Par (slices_IndexFunc_Write_ownAt_1_k a0 a1) := by
  rw [slices_IndexFunc_Write_ownAt_1_e]
  unfold slices_IndexFunc_Write_ownAt_1_d
  exact ((par_loop slices_IndexFunc_Write_ownAt_1_bp0 Fuel (a0, (0 : Int), (a0.length : Int), (0 : Int), a1)).bind2 (fun z1 => (par_ret _)) (fun z2 => (par_ret _)))

def impl_ownAt_d (a0 : dTxn) (a1 : ByteArray) (k : Int → Option Res) : Option Res :=
  slices_IndexFunc_Write_ownAt_1_k a0.2.2.2.2.2.1 a1 (fun y1 =>
    k y1.1)

theorem impl_ownAt_h : ∃ g : dTxn → ByteArray → (Int → Option Res) → Option Res, g = impl_ownAt_d := ⟨_, rfl⟩
def impl_ownAt_k : dTxn → ByteArray → (Int → Option Res) → Option Res := Classical.choose impl_ownAt_h
theorem impl_ownAt_e : impl_ownAt_k = impl_ownAt_d := Classical.choose_spec impl_ownAt_h

theorem impl_ownAt_p (a0 : dTxn) (a1 : ByteArray) : Par (impl_ownAt_k a0 a1) := by
  rw [impl_ownAt_e]
  unfold impl_ownAt_d
  exact ((slices_IndexFunc_Write_ownAt_1_p a0.2.2.2.2.2.1 a1).bind fun y1 => (par_ret _))

def impl_lastAt_b0 (x : ((List dVersion) × ByteArray × Int × Int × (List dVersion) × Int × Int)) (k : ((List dVersion) × ByteArray × Int × Int × (List dVersion) × Int × Int) ⊕ ((List dVersion) × ByteArray × Int × Int × (List dVersion) × Int × Int) → Option Res) : Option Res :=
    bif (decide (x.2.2.2.2.2.2 < x.2.2.2.2.2.1)) then
      if 0 ≤ x.2.2.2.2.2.2 ∧ x.2.2.2.2.2.2 < (x.2.2.2.2.1.length : Int) then
        bif (strEq ((rd (Ty.zero tVersion) x.2.2.2.2.1 x.2.2.2.2.2.2).1) x.2.1) then
          bif (decide ((rd (Ty.zero tVersion) x.2.2.2.2.1 x.2.2.2.2.2.2).2.2.2 ≤ x.2.2.1)) then
            bif (decide (x.2.2.2.1 < (0 : Int))) then
              k (.inl (x.1, x.2.1, x.2.2.1, x.2.2.2.2.2.2, x.2.2.2.2.1, x.2.2.2.2.2.1, (IntKind.wrap .i64 (x.2.2.2.2.2.2 + (1 : Int)))))
            else
              if 0 ≤ x.2.2.2.1 ∧ x.2.2.2.1 < (x.1.length : Int) then
                bif (decide ((rd (Ty.zero tVersion) x.2.2.2.2.1 x.2.2.2.2.2.2).2.2.2 > (rd (Ty.zero tVersion) x.1 x.2.2.2.1).2.2.2)) then
                  k (.inl (x.1, x.2.1, x.2.2.1, x.2.2.2.2.2.2, x.2.2.2.2.1, x.2.2.2.2.2.1, (IntKind.wrap .i64 (x.2.2.2.2.2.2 + (1 : Int)))))
                else
                  k (.inl (x.1, x.2.1, x.2.2.1, x.2.2.2.1, x.2.2.2.2.1, x.2.2.2.2.2.1, (IntKind.wrap .i64 (x.2.2.2.2.2.2 + (1 : Int)))))
              else none
          else
            k (.inl (x.1, x.2.1, x.2.2.1, x.2.2.2.1, x.2.2.2.2.1, x.2.2.2.2.2.1, (IntKind.wrap .i64 (x.2.2.2.2.2.2 + (1 : Int)))))
        else
          k (.inl (x.1, x.2.1, x.2.2.1, x.2.2.2.1, x.2.2.2.2.1, x.2.2.2.2.2.1, (IntKind.wrap .i64 (x.2.2.2.2.2.2 + (1 : Int)))))
      else none
    else
      k (.inr (x.1, x.2.1, x.2.2.1, x.2.2.2.1, x.2.2.2.2.1, x.2.2.2.2.2.1, x.2.2.2.2.2.2))

theorem impl_lastAt_bp0 (x : ((List dVersion) × ByteArray × Int × Int × (List dVersion) × Int × Int)) : Par (impl_lastAt_b0 x) := by
  unfold impl_lastAt_b0
  exact (par_bif (par_ite (c := 0 ≤ x.2.2.2.2.2.2 ∧ x.2.2.2.2.2.2 < (x.2.2.2.2.1.length : Int)) (par_bif (par_bif (par_bif (par_ret _) (par_ite (c := 0 ≤ x.2.2.2.1 ∧ x.2.2.2.1 < (x.1.length : Int)) (par_bif (par_ret _) (par_ret _)) par_none)) (par_ret _)) (par_ret _)) par_none) (par_ret _))

def impl_lastAt_d (a0 : (List dVersion)) (a1 : ByteArray) (a2 : Int) (k : Int → Option Res) : Option Res :=
  loopK impl_lastAt_b0 Fuel (a0, a1, a2, (-1 : Int), a0, (a0.length : Int), (0 : Int)) (fun z1 =>
    k z1.2.2.2.1)

theorem impl_lastAt_h : ∃ g : (List dVersion) → ByteArray → Int → (Int → Option Res) → Option Res, g = impl_lastAt_d := ⟨_, rfl⟩
def impl_lastAt_k : (List dVersion) → ByteArray → Int → (Int → Option Res) → Option Res := Classical.choose impl_lastAt_h
theorem impl_lastAt_e : impl_lastAt_k = impl_lastAt_d := Classical.choose_spec impl_lastAt_h

theorem impl_lastAt_p (a0 : (List dVersion)) (a1 : ByteArray) (a2 : Int) : Par (impl_lastAt_k a0 a1 a2) := by
  rw [impl_lastAt_e]
  unfold impl_lastAt_d
  exact ((par_loop impl_lastAt_bp0 Fuel (a0, a1, a2, (-1 : Int), a0, (a0.length : Int), (0 : Int))).bind fun z1 => (par_ret _))

def impl_SeenAt_d (a0 : (List dVersion)) (a1 : ByteArray) (a2 : Int) (k : (ByteArray × Bool) → Option Res) : Option Res :=
  impl_lastAt_k a0 a1 a2 (fun y1 =>
    bif (decide (y1 < (0 : Int))) then
      k ((⟨#[]⟩ : ByteArray), false)
    else
      if 0 ≤ y1 ∧ y1 < (a0.length : Int) then
        bif (rd (Ty.zero tVersion) a0 y1).2.2.1 then
          k ((⟨#[]⟩ : ByteArray), false)
        else
          if 0 ≤ y1 ∧ y1 < (a0.length : Int) then
            k ((rd (Ty.zero tVersion) a0 y1).2.1, true)
          else none
      else none)

theorem impl_SeenAt_h : ∃ g : (List dVersion) → ByteArray → Int → ((ByteArray × Bool) → Option Res) → Option Res, g = impl_SeenAt_d := ⟨_, rfl⟩
def impl_SeenAt_k : (List dVersion) → ByteArray → Int → ((ByteArray × Bool) → Option Res) → Option Res := Classical.choose impl_SeenAt_h
theorem impl_SeenAt_e : impl_SeenAt_k = impl_SeenAt_d := Classical.choose_spec impl_SeenAt_h

theorem impl_SeenAt_p (a0 : (List dVersion)) (a1 : ByteArray) (a2 : Int) : Par (impl_SeenAt_k a0 a1 a2) := by
  rw [impl_SeenAt_e]
  unfold impl_SeenAt_d
  exact ((impl_lastAt_p a0 a1 a2).bind fun y1 => (par_bif (par_ret _) (par_ite (c := 0 ≤ y1 ∧ y1 < (a0.length : Int)) (par_bif (par_ret _) (par_ite (c := 0 ≤ y1 ∧ y1 < (a0.length : Int)) (par_ret _) par_none)) par_none)))

def impl_OwnGet_d (a0 : dTxn) (a1 : (List dVersion)) (a2 : ByteArray) (k : (ByteArray × Bool) → Option Res) : Option Res :=
  impl_ownAt_k a0 a2 (fun y1 =>
    bif (decide (y1 ≥ (0 : Int))) then
      if 0 ≤ y1 ∧ y1 < (a0.2.2.2.2.2.1.length : Int) then
        bif (rd (Ty.zero tWrite) a0.2.2.2.2.2.1 y1).2.2 then
          k ((⟨#[]⟩ : ByteArray), false)
        else
          if 0 ≤ y1 ∧ y1 < (a0.2.2.2.2.2.1.length : Int) then
            k ((rd (Ty.zero tWrite) a0.2.2.2.2.2.1 y1).2.1, true)
          else none
      else none
    else
      impl_SeenAt_k a1 a2 a0.2.2.1 (fun y2 =>
        k (y2.1, y2.2)))

theorem impl_OwnGet_h : ∃ g : dTxn → (List dVersion) → ByteArray → ((ByteArray × Bool) → Option Res) → Option Res, g = impl_OwnGet_d := ⟨_, rfl⟩
def impl_OwnGet_k : dTxn → (List dVersion) → ByteArray → ((ByteArray × Bool) → Option Res) → Option Res := Classical.choose impl_OwnGet_h
theorem impl_OwnGet_e : impl_OwnGet_k = impl_OwnGet_d := Classical.choose_spec impl_OwnGet_h

theorem impl_OwnGet_p (a0 : dTxn) (a1 : (List dVersion)) (a2 : ByteArray) : Par (impl_OwnGet_k a0 a1 a2) := by
  rw [impl_OwnGet_e]
  unfold impl_OwnGet_d
  exact ((impl_ownAt_p a0 a2).bind fun y1 => (par_bif (par_ite (c := 0 ≤ y1 ∧ y1 < (a0.2.2.2.2.2.1.length : Int)) (par_bif (par_ret _) (par_ite (c := 0 ≤ y1 ∧ y1 < (a0.2.2.2.2.2.1.length : Int)) (par_ret _) par_none)) par_none) ((impl_SeenAt_p a1 a2 a0.2.2.1).bind fun y2 => (par_ret _))))

def impl_InRange_d (a0 : dRange) (a1 : ByteArray) (k : Bool → Option Res) : Option Res :=
  bif (!(strLess a1 a0.1)) then
    k ((strLess a1 a0.2) || (strEq a1 a0.2))
  else
    k false

theorem impl_InRange_h : ∃ g : dRange → ByteArray → (Bool → Option Res) → Option Res, g = impl_InRange_d := ⟨_, rfl⟩
def impl_InRange_k : dRange → ByteArray → (Bool → Option Res) → Option Res := Classical.choose impl_InRange_h
theorem impl_InRange_e : impl_InRange_k = impl_InRange_d := Classical.choose_spec impl_InRange_h

theorem impl_InRange_p (a0 : dRange) (a1 : ByteArray) : Par (impl_InRange_k a0 a1) := by
  rw [impl_InRange_e]
  unfold impl_InRange_d
  exact (par_bif (par_ret _) (par_ret _))

def impl_OwnScan_b0 (x : ((List dVersion) × (List dWrite) × Int × Int × Int × Int × Int × Int × (List dRange) × (List dWrite) × Bool × ByteArray × ByteArray × ByteArray × (List ByteArray))) (k : ((List dVersion) × (List dWrite) × Int × Int × Int × Int × Int × Int × (List dRange) × (List dWrite) × Bool × ByteArray × ByteArray × ByteArray × (List ByteArray)) ⊕ ((List dVersion) × (List dWrite) × Int × Int × Int × Int × Int × Int × (List dRange) × (List dWrite) × Bool × ByteArray × ByteArray × ByteArray × (List ByteArray)) → Option Res) : Option Res :=
    bif (decide (x.2.2.2.1 < x.2.2.1)) then
      if 0 ≤ x.2.2.2.1 ∧ x.2.2.2.1 < (x.2.1.length : Int) then
        if x.2.2.2.2.2.2.2.2.2.2.2.2.2.2.length + [(rd (Ty.zero tWrite) x.2.1 x.2.2.2.1).1].length ≤ VE.maxLen then
          k (.inl (x.1, x.2.1, x.2.2.1, (IntKind.wrap .i64 (x.2.2.2.1 + (1 : Int))), x.2.2.2.2.1, x.2.2.2.2.2.1, x.2.2.2.2.2.2.1, x.2.2.2.2.2.2.2.1, x.2.2.2.2.2.2.2.2.1, x.2.2.2.2.2.2.2.2.2.1, x.2.2.2.2.2.2.2.2.2.2.1, x.2.2.2.2.2.2.2.2.2.2.2.1, x.2.2.2.2.2.2.2.2.2.2.2.2.1, x.2.2.2.2.2.2.2.2.2.2.2.2.2.1, (x.2.2.2.2.2.2.2.2.2.2.2.2.2.2 ++ [(rd (Ty.zero tWrite) x.2.1 x.2.2.2.1).1])))
        else none
      else none
    else
      k (.inr (x.1, x.2.1, x.2.2.1, x.2.2.2.1, x.2.2.2.2.1, x.2.2.2.2.2.1, x.2.2.2.2.2.2.1, x.2.2.2.2.2.2.2.1, x.2.2.2.2.2.2.2.2.1, x.2.2.2.2.2.2.2.2.2.1, x.2.2.2.2.2.2.2.2.2.2.1, x.2.2.2.2.2.2.2.2.2.2.2.1, x.2.2.2.2.2.2.2.2.2.2.2.2.1, x.2.2.2.2.2.2.2.2.2.2.2.2.2.1, x.2.2.2.2.2.2.2.2.2.2.2.2.2.2))

theorem impl_OwnScan_bp0 (x : ((List dVersion) × (List dWrite) × Int × Int × Int × Int × Int × Int × (List dRange) × (List dWrite) × Bool × ByteArray × ByteArray × ByteArray × (List ByteArray))) : Par (impl_OwnScan_b0 x) := by
  unfold impl_OwnScan_b0
  exact (par_bif (par_ite (c := 0 ≤ x.2.2.2.1 ∧ x.2.2.2.1 < (x.2.1.length : Int)) (par_ite (c := x.2.2.2.2.2.2.2.2.2.2.2.2.2.2.length + [(rd (Ty.zero tWrite) x.2.1 x.2.2.2.1).1].length ≤ VE.maxLen) (par_ret _) par_none) par_none) (par_ret _))

def impl_OwnScan_b2 (x : ((List dVersion) × Int × Int × Int × Int × Int × Int × (List dRange) × (List dWrite) × Bool × ByteArray × ByteArray × ByteArray × (List dRange) × (List ByteArray))) (k : ((List dVersion) × Int × Int × Int × Int × Int × Int × (List dRange) × (List dWrite) × Bool × ByteArray × ByteArray × ByteArray × (List dRange) × (List ByteArray)) ⊕ ((List dVersion) × Int × Int × Int × Int × Int × Int × (List dRange) × (List dWrite) × Bool × ByteArray × ByteArray × ByteArray × (List dRange) × (List ByteArray)) → Option Res) : Option Res :=
    bif (decide (x.2.2.1 < x.2.1)) then
      if 0 ≤ x.2.2.1 ∧ x.2.2.1 < (x.2.2.2.2.2.2.2.2.2.2.2.2.2.2.length : Int) then
        impl_OwnGet_k (x.2.2.2.1, (x.2.2.2.2.1, (x.2.2.2.2.2.1, (x.2.2.2.2.2.2.1, (x.2.2.2.2.2.2.2.1, (x.2.2.2.2.2.2.2.2.1, (x.2.2.2.2.2.2.2.2.2.1, x.2.2.2.2.2.2.2.2.2.2.1))))))) x.1 (x.2.2.2.2.2.2.2.2.2.2.2.2.2.2.getD x.2.2.1.toNat (Ty.zero .str)) (fun y8 =>
          bif y8.2 then
            impl_InRange_k (x.2.2.2.2.2.2.2.2.2.2.2.1, x.2.2.2.2.2.2.2.2.2.2.2.2.1) (x.2.2.2.2.2.2.2.2.2.2.2.2.2.2.getD x.2.2.1.toNat (Ty.zero .str)) (fun y9 =>
              bif y9 then
                if x.2.2.2.2.2.2.2.2.2.2.2.2.2.1.length + [((x.2.2.2.2.2.2.2.2.2.2.2.2.2.2.getD x.2.2.1.toNat (Ty.zero .str)), y8.1)].length ≤ VE.maxLen then
                  k (.inl (x.1, x.2.1, (IntKind.wrap .i64 (x.2.2.1 + (1 : Int))), x.2.2.2.1, x.2.2.2.2.1, x.2.2.2.2.2.1, x.2.2.2.2.2.2.1, x.2.2.2.2.2.2.2.1, x.2.2.2.2.2.2.2.2.1, x.2.2.2.2.2.2.2.2.2.1, x.2.2.2.2.2.2.2.2.2.2.1, x.2.2.2.2.2.2.2.2.2.2.2.1, x.2.2.2.2.2.2.2.2.2.2.2.2.1, (x.2.2.2.2.2.2.2.2.2.2.2.2.2.1 ++ [((x.2.2.2.2.2.2.2.2.2.2.2.2.2.2.getD x.2.2.1.toNat (Ty.zero .str)), y8.1)]), x.2.2.2.2.2.2.2.2.2.2.2.2.2.2))
                else none
              else
                k (.inl (x.1, x.2.1, (IntKind.wrap .i64 (x.2.2.1 + (1 : Int))), x.2.2.2.1, x.2.2.2.2.1, x.2.2.2.2.2.1, x.2.2.2.2.2.2.1, x.2.2.2.2.2.2.2.1, x.2.2.2.2.2.2.2.2.1, x.2.2.2.2.2.2.2.2.2.1, x.2.2.2.2.2.2.2.2.2.2.1, x.2.2.2.2.2.2.2.2.2.2.2.1, x.2.2.2.2.2.2.2.2.2.2.2.2.1, x.2.2.2.2.2.2.2.2.2.2.2.2.2.1, x.2.2.2.2.2.2.2.2.2.2.2.2.2.2)))
          else
            k (.inl (x.1, x.2.1, (IntKind.wrap .i64 (x.2.2.1 + (1 : Int))), x.2.2.2.1, x.2.2.2.2.1, x.2.2.2.2.2.1, x.2.2.2.2.2.2.1, x.2.2.2.2.2.2.2.1, x.2.2.2.2.2.2.2.2.1, x.2.2.2.2.2.2.2.2.2.1, x.2.2.2.2.2.2.2.2.2.2.1, x.2.2.2.2.2.2.2.2.2.2.2.1, x.2.2.2.2.2.2.2.2.2.2.2.2.1, x.2.2.2.2.2.2.2.2.2.2.2.2.2.1, x.2.2.2.2.2.2.2.2.2.2.2.2.2.2)))
      else none
    else
      k (.inr (x.1, x.2.1, x.2.2.1, x.2.2.2.1, x.2.2.2.2.1, x.2.2.2.2.2.1, x.2.2.2.2.2.2.1, x.2.2.2.2.2.2.2.1, x.2.2.2.2.2.2.2.2.1, x.2.2.2.2.2.2.2.2.2.1, x.2.2.2.2.2.2.2.2.2.2.1, x.2.2.2.2.2.2.2.2.2.2.2.1, x.2.2.2.2.2.2.2.2.2.2.2.2.1, x.2.2.2.2.2.2.2.2.2.2.2.2.2.1, x.2.2.2.2.2.2.2.2.2.2.2.2.2.2))

theorem impl_OwnScan_bp2 (x : ((List dVersion) × Int × Int × Int × Int × Int × Int × (List dRange) × (List dWrite) × Bool × ByteArray × ByteArray × ByteArray × (List dRange) × (List ByteArray))) : Par (impl_OwnScan_b2 x) := by
  unfold impl_OwnScan_b2
  exact (par_bif (par_ite (c := 0 ≤ x.2.2.1 ∧ x.2.2.1 < (x.2.2.2.2.2.2.2.2.2.2.2.2.2.2.length : Int)) ((impl_OwnGet_p (x.2.2.2.1, (x.2.2.2.2.1, (x.2.2.2.2.2.1, (x.2.2.2.2.2.2.1, (x.2.2.2.2.2.2.2.1, (x.2.2.2.2.2.2.2.2.1, (x.2.2.2.2.2.2.2.2.2.1, x.2.2.2.2.2.2.2.2.2.2.1))))))) x.1 (x.2.2.2.2.2.2.2.2.2.2.2.2.2.2.getD x.2.2.1.toNat (Ty.zero .str))).bind fun y8 => (par_bif ((impl_InRange_p (x.2.2.2.2.2.2.2.2.2.2.2.1, x.2.2.2.2.2.2.2.2.2.2.2.2.1) (x.2.2.2.2.2.2.2.2.2.2.2.2.2.2.getD x.2.2.1.toNat (Ty.zero .str))).bind fun y9 => (par_bif (par_ite (c := x.2.2.2.2.2.2.2.2.2.2.2.2.2.1.length + [((x.2.2.2.2.2.2.2.2.2.2.2.2.2.2.getD x.2.2.1.toNat (Ty.zero .str)), y8.1)].length ≤ VE.maxLen) (par_ret _) par_none) (par_ret _))) (par_ret _))) par_none) (par_ret _))

def impl_OwnScan_d (a0 : dTxn) (a1 : (List dVersion)) (a2 : dRange) (k : (List dRange) → Option Res) : Option Res :=
  impl_keysOf_k a1 (fun y1 =>
    loopK impl_OwnScan_b0 Fuel (a1, a0.2.2.2.2.2.1, (a0.2.2.2.2.2.1.length : Int), (0 : Int), a0.1, a0.2.1, a0.2.2.1, a0.2.2.2.1, a0.2.2.2.2.1, a0.2.2.2.2.2.1, a0.2.2.2.2.2.2.1, a0.2.2.2.2.2.2.2, a2.1, a2.2, y1) (fun z2 =>
      slices_Sort_string_vo_k z2.2.2.2.2.2.2.2.2.2.2.2.2.2.2 (fun y3 =>
        slices_Compact_string_vo_k y3 (Sum.elim (fun y4 =>
          loopK impl_OwnScan_b2 Fuel (z2.1, (y4.length : Int), (0 : Int), z2.2.2.2.2.1, z2.2.2.2.2.2.1, z2.2.2.2.2.2.2.1, z2.2.2.2.2.2.2.2.1, z2.2.2.2.2.2.2.2.2.1, z2.2.2.2.2.2.2.2.2.2.1, z2.2.2.2.2.2.2.2.2.2.2.1, z2.2.2.2.2.2.2.2.2.2.2.2.1, z2.2.2.2.2.2.2.2.2.2.2.2.2.1, z2.2.2.2.2.2.2.2.2.2.2.2.2.2.1, ([] : List dRange), y4) (fun z5 =>
            k z5.2.2.2.2.2.2.2.2.2.2.2.2.2.1)) (fun y6 =>
          loopK impl_OwnScan_b2 Fuel (z2.1, (y6.length : Int), (0 : Int), z2.2.2.2.2.1, z2.2.2.2.2.2.1, z2.2.2.2.2.2.2.1, z2.2.2.2.2.2.2.2.1, z2.2.2.2.2.2.2.2.2.1, z2.2.2.2.2.2.2.2.2.2.1, z2.2.2.2.2.2.2.2.2.2.2.1, z2.2.2.2.2.2.2.2.2.2.2.2.1, z2.2.2.2.2.2.2.2.2.2.2.2.2.1, z2.2.2.2.2.2.2.2.2.2.2.2.2.2.1, ([] : List dRange), y6) (fun z7 =>
            k z7.2.2.2.2.2.2.2.2.2.2.2.2.2.1))))))

theorem impl_OwnScan_h : ∃ g : dTxn → (List dVersion) → dRange → ((List dRange) → Option Res) → Option Res, g = impl_OwnScan_d := ⟨_, rfl⟩
def impl_OwnScan_k : dTxn → (List dVersion) → dRange → ((List dRange) → Option Res) → Option Res := Classical.choose impl_OwnScan_h
theorem impl_OwnScan_e : impl_OwnScan_k = impl_OwnScan_d := Classical.choose_spec impl_OwnScan_h

theorem impl_OwnScan_p (a0 : dTxn) (a1 : (List dVersion)) (a2 : dRange) : Par (impl_OwnScan_k a0 a1 a2) := by
  rw [impl_OwnScan_e]
  unfold impl_OwnScan_d
  exact ((impl_keysOf_p a1).bind fun y1 => ((par_loop impl_OwnScan_bp0 Fuel (a1, a0.2.2.2.2.2.1, (a0.2.2.2.2.2.1.length : Int), (0 : Int), a0.1, a0.2.1, a0.2.2.1, a0.2.2.2.1, a0.2.2.2.2.1, a0.2.2.2.2.2.1, a0.2.2.2.2.2.2.1, a0.2.2.2.2.2.2.2, a2.1, a2.2, y1)).bind fun z2 => ((slices_Sort_string_vo_p z2.2.2.2.2.2.2.2.2.2.2.2.2.2.2).bind fun y3 => ((slices_Compact_string_vo_p y3).bind2 (fun y4 => ((par_loop impl_OwnScan_bp2 Fuel (z2.1, (y4.length : Int), (0 : Int), z2.2.2.2.2.1, z2.2.2.2.2.2.1, z2.2.2.2.2.2.2.1, z2.2.2.2.2.2.2.2.1, z2.2.2.2.2.2.2.2.2.1, z2.2.2.2.2.2.2.2.2.2.1, z2.2.2.2.2.2.2.2.2.2.2.1, z2.2.2.2.2.2.2.2.2.2.2.2.1, z2.2.2.2.2.2.2.2.2.2.2.2.2.1, z2.2.2.2.2.2.2.2.2.2.2.2.2.2.1, ([] : List dRange), y4)).bind fun z5 => (par_ret _))) (fun y6 => ((par_loop impl_OwnScan_bp2 Fuel (z2.1, (y6.length : Int), (0 : Int), z2.2.2.2.2.1, z2.2.2.2.2.2.1, z2.2.2.2.2.2.2.1, z2.2.2.2.2.2.2.2.1, z2.2.2.2.2.2.2.2.2.1, z2.2.2.2.2.2.2.2.2.2.1, z2.2.2.2.2.2.2.2.2.2.2.1, z2.2.2.2.2.2.2.2.2.2.2.2.1, z2.2.2.2.2.2.2.2.2.2.2.2.2.1, z2.2.2.2.2.2.2.2.2.2.2.2.2.2.1, ([] : List dRange), y6)).bind fun z7 => (par_ret _)))))))

def laws_eqPair_d (a0 : dRange) (a1 : dRange) (k : Bool → Option Res) : Option Res :=
  bif (!(strEq a0.1 a1.1)) then
    k false
  else
    bif (!(strEq a0.2 a1.2)) then
      k false
    else
      k true

theorem laws_eqPair_h : ∃ g : dRange → dRange → (Bool → Option Res) → Option Res, g = laws_eqPair_d := ⟨_, rfl⟩
def laws_eqPair_k : dRange → dRange → (Bool → Option Res) → Option Res := Classical.choose laws_eqPair_h
theorem laws_eqPair_e : laws_eqPair_k = laws_eqPair_d := Classical.choose_spec laws_eqPair_h

theorem laws_eqPair_p (a0 : dRange) (a1 : dRange) : Par (laws_eqPair_k a0 a1) := by
  rw [laws_eqPair_e]
  unfold laws_eqPair_d
  exact (par_bif (par_ret _) (par_bif (par_ret _) (par_ret _)))

def laws_eqPairS_b0 (x : ((List dRange) × (List dRange) × Bool × Int)) (k : ((List dRange) × (List dRange) × Bool × Int) ⊕ (((List dRange) × (List dRange) × Bool × Int) ⊕ ((List dRange) × (List dRange) × Bool × Int)) → Option Res) : Option Res :=
    bif (decide (x.2.2.2 < (x.1.length : Int))) then
      if 0 ≤ x.2.2.2 ∧ x.2.2.2 < (x.1.length : Int) then
        if 0 ≤ x.2.2.2 ∧ x.2.2.2 < (x.2.1.length : Int) then
          laws_eqPair_k (rd (Ty.zero tRange) x.1 x.2.2.2) (rd (Ty.zero tRange) x.2.1 x.2.2.2) (fun y3 =>
            bif (!y3) then
              k (.inr (.inl (x.1, x.2.1, false, x.2.2.2)))
            else
              k (.inl (x.1, x.2.1, x.2.2.1, (IntKind.wrap .i64 (x.2.2.2 + (1 : Int))))))
        else none
      else none
    else
      k (.inr (.inr (x.1, x.2.1, x.2.2.1, x.2.2.2)))

theorem laws_eqPairS_bp0 (x : ((List dRange) × (List dRange) × Bool × Int)) : Par (laws_eqPairS_b0 x) := by
  unfold laws_eqPairS_b0
  exact (par_bif (par_ite (c := 0 ≤ x.2.2.2 ∧ x.2.2.2 < (x.1.length : Int)) (par_ite (c := 0 ≤ x.2.2.2 ∧ x.2.2.2 < (x.2.1.length : Int)) ((laws_eqPair_p (rd (Ty.zero tRange) x.1 x.2.2.2) (rd (Ty.zero tRange) x.2.1 x.2.2.2)).bind fun y3 => (par_bif (par_ret _) (par_ret _))) par_none) par_none) (par_ret _))

def laws_eqPairS_d (a0 : (List dRange)) (a1 : (List dRange)) (k : Bool → Option Res) : Option Res :=
  bif ((a0.length : Int) != (a1.length : Int)) then
    k false
  else
    loopK laws_eqPairS_b0 Fuel (a0, a1, false, (0 : Int)) (Sum.elim (fun z1 =>
      k z1.2.2.1) (fun _ =>
      k true))

theorem laws_eqPairS_h : ∃ g : (List dRange) → (List dRange) → (Bool → Option Res) → Option Res, g = laws_eqPairS_d := ⟨_, rfl⟩
def laws_eqPairS_k : (List dRange) → (List dRange) → (Bool → Option Res) → Option Res := Classical.choose laws_eqPairS_h
theorem laws_eqPairS_e : laws_eqPairS_k = laws_eqPairS_d := Classical.choose_spec laws_eqPairS_h

theorem laws_eqPairS_p (a0 : (List dRange)) (a1 : (List dRange)) : Par (laws_eqPairS_k a0 a1) := by
  rw [laws_eqPairS_e]
  unfold laws_eqPairS_d
  exact (par_bif (par_ret _) ((par_loop laws_eqPairS_bp0 Fuel (a0, a1, false, (0 : Int))).bind2 (fun z1 => (par_ret _)) (fun z2 => (par_ret _))))

def laws_eqRange_d (a0 : dRange) (a1 : dRange) (k : Bool → Option Res) : Option Res :=
  bif (!(strEq a0.1 a1.1)) then
    k false
  else
    bif (!(strEq a0.2 a1.2)) then
      k false
    else
      k true

theorem laws_eqRange_h : ∃ g : dRange → dRange → (Bool → Option Res) → Option Res, g = laws_eqRange_d := ⟨_, rfl⟩
def laws_eqRange_k : dRange → dRange → (Bool → Option Res) → Option Res := Classical.choose laws_eqRange_h
theorem laws_eqRange_e : laws_eqRange_k = laws_eqRange_d := Classical.choose_spec laws_eqRange_h

theorem laws_eqRange_p (a0 : dRange) (a1 : dRange) : Par (laws_eqRange_k a0 a1) := by
  rw [laws_eqRange_e]
  unfold laws_eqRange_d
  exact (par_bif (par_ret _) (par_bif (par_ret _) (par_ret _)))

def laws_eqRangeS_b0 (x : ((List dRange) × (List dRange) × Bool × Int)) (k : ((List dRange) × (List dRange) × Bool × Int) ⊕ (((List dRange) × (List dRange) × Bool × Int) ⊕ ((List dRange) × (List dRange) × Bool × Int)) → Option Res) : Option Res :=
    bif (decide (x.2.2.2 < (x.1.length : Int))) then
      if 0 ≤ x.2.2.2 ∧ x.2.2.2 < (x.1.length : Int) then
        if 0 ≤ x.2.2.2 ∧ x.2.2.2 < (x.2.1.length : Int) then
          laws_eqRange_k (rd (Ty.zero tRange) x.1 x.2.2.2) (rd (Ty.zero tRange) x.2.1 x.2.2.2) (fun y3 =>
            bif (!y3) then
              k (.inr (.inl (x.1, x.2.1, false, x.2.2.2)))
            else
              k (.inl (x.1, x.2.1, x.2.2.1, (IntKind.wrap .i64 (x.2.2.2 + (1 : Int))))))
        else none
      else none
    else
      k (.inr (.inr (x.1, x.2.1, x.2.2.1, x.2.2.2)))

theorem laws_eqRangeS_bp0 (x : ((List dRange) × (List dRange) × Bool × Int)) : Par (laws_eqRangeS_b0 x) := by
  unfold laws_eqRangeS_b0
  exact (par_bif (par_ite (c := 0 ≤ x.2.2.2 ∧ x.2.2.2 < (x.1.length : Int)) (par_ite (c := 0 ≤ x.2.2.2 ∧ x.2.2.2 < (x.2.1.length : Int)) ((laws_eqRange_p (rd (Ty.zero tRange) x.1 x.2.2.2) (rd (Ty.zero tRange) x.2.1 x.2.2.2)).bind fun y3 => (par_bif (par_ret _) (par_ret _))) par_none) par_none) (par_ret _))

def laws_eqRangeS_d (a0 : (List dRange)) (a1 : (List dRange)) (k : Bool → Option Res) : Option Res :=
  bif ((a0.length : Int) != (a1.length : Int)) then
    k false
  else
    loopK laws_eqRangeS_b0 Fuel (a0, a1, false, (0 : Int)) (Sum.elim (fun z1 =>
      k z1.2.2.1) (fun _ =>
      k true))

theorem laws_eqRangeS_h : ∃ g : (List dRange) → (List dRange) → (Bool → Option Res) → Option Res, g = laws_eqRangeS_d := ⟨_, rfl⟩
def laws_eqRangeS_k : (List dRange) → (List dRange) → (Bool → Option Res) → Option Res := Classical.choose laws_eqRangeS_h
theorem laws_eqRangeS_e : laws_eqRangeS_k = laws_eqRangeS_d := Classical.choose_spec laws_eqRangeS_h

theorem laws_eqRangeS_p (a0 : (List dRange)) (a1 : (List dRange)) : Par (laws_eqRangeS_k a0 a1) := by
  rw [laws_eqRangeS_e]
  unfold laws_eqRangeS_d
  exact (par_bif (par_ret _) ((par_loop laws_eqRangeS_bp0 Fuel (a0, a1, false, (0 : Int))).bind2 (fun z1 => (par_ret _)) (fun z2 => (par_ret _))))

def laws_eqWrite_d (a0 : dWrite) (a1 : dWrite) (k : Bool → Option Res) : Option Res :=
  bif (!(strEq a0.1 a1.1)) then
    k false
  else
    bif (!(strEq a0.2.1 a1.2.1)) then
      k false
    else
      bif (!(a0.2.2 == a1.2.2)) then
        k false
      else
        k true

theorem laws_eqWrite_h : ∃ g : dWrite → dWrite → (Bool → Option Res) → Option Res, g = laws_eqWrite_d := ⟨_, rfl⟩
def laws_eqWrite_k : dWrite → dWrite → (Bool → Option Res) → Option Res := Classical.choose laws_eqWrite_h
theorem laws_eqWrite_e : laws_eqWrite_k = laws_eqWrite_d := Classical.choose_spec laws_eqWrite_h

theorem laws_eqWrite_p (a0 : dWrite) (a1 : dWrite) : Par (laws_eqWrite_k a0 a1) := by
  rw [laws_eqWrite_e]
  unfold laws_eqWrite_d
  exact (par_bif (par_ret _) (par_bif (par_ret _) (par_bif (par_ret _) (par_ret _))))

def laws_eqWriteS_b0 (x : ((List dWrite) × (List dWrite) × Bool × Int)) (k : ((List dWrite) × (List dWrite) × Bool × Int) ⊕ (((List dWrite) × (List dWrite) × Bool × Int) ⊕ ((List dWrite) × (List dWrite) × Bool × Int)) → Option Res) : Option Res :=
    bif (decide (x.2.2.2 < (x.1.length : Int))) then
      if 0 ≤ x.2.2.2 ∧ x.2.2.2 < (x.1.length : Int) then
        if 0 ≤ x.2.2.2 ∧ x.2.2.2 < (x.2.1.length : Int) then
          laws_eqWrite_k (rd (Ty.zero tWrite) x.1 x.2.2.2) (rd (Ty.zero tWrite) x.2.1 x.2.2.2) (fun y3 =>
            bif (!y3) then
              k (.inr (.inl (x.1, x.2.1, false, x.2.2.2)))
            else
              k (.inl (x.1, x.2.1, x.2.2.1, (IntKind.wrap .i64 (x.2.2.2 + (1 : Int))))))
        else none
      else none
    else
      k (.inr (.inr (x.1, x.2.1, x.2.2.1, x.2.2.2)))

theorem laws_eqWriteS_bp0 (x : ((List dWrite) × (List dWrite) × Bool × Int)) : Par (laws_eqWriteS_b0 x) := by
  unfold laws_eqWriteS_b0
  exact (par_bif (par_ite (c := 0 ≤ x.2.2.2 ∧ x.2.2.2 < (x.1.length : Int)) (par_ite (c := 0 ≤ x.2.2.2 ∧ x.2.2.2 < (x.2.1.length : Int)) ((laws_eqWrite_p (rd (Ty.zero tWrite) x.1 x.2.2.2) (rd (Ty.zero tWrite) x.2.1 x.2.2.2)).bind fun y3 => (par_bif (par_ret _) (par_ret _))) par_none) par_none) (par_ret _))

def laws_eqWriteS_d (a0 : (List dWrite)) (a1 : (List dWrite)) (k : Bool → Option Res) : Option Res :=
  bif ((a0.length : Int) != (a1.length : Int)) then
    k false
  else
    loopK laws_eqWriteS_b0 Fuel (a0, a1, false, (0 : Int)) (Sum.elim (fun z1 =>
      k z1.2.2.1) (fun _ =>
      k true))

theorem laws_eqWriteS_h : ∃ g : (List dWrite) → (List dWrite) → (Bool → Option Res) → Option Res, g = laws_eqWriteS_d := ⟨_, rfl⟩
def laws_eqWriteS_k : (List dWrite) → (List dWrite) → (Bool → Option Res) → Option Res := Classical.choose laws_eqWriteS_h
theorem laws_eqWriteS_e : laws_eqWriteS_k = laws_eqWriteS_d := Classical.choose_spec laws_eqWriteS_h

theorem laws_eqWriteS_p (a0 : (List dWrite)) (a1 : (List dWrite)) : Par (laws_eqWriteS_k a0 a1) := by
  rw [laws_eqWriteS_e]
  unfold laws_eqWriteS_d
  exact (par_bif (par_ret _) ((par_loop laws_eqWriteS_bp0 Fuel (a0, a1, false, (0 : Int))).bind2 (fun z1 => (par_ret _)) (fun z2 => (par_ret _))))

def laws_eqTxn_d (a0 : dTxn) (a1 : dTxn) (k : Bool → Option Res) : Option Res :=
  bif (a0.1 != a1.1) then
    k false
  else
    bif (a0.2.1 != a1.2.1) then
      k false
    else
      bif (a0.2.2.1 != a1.2.2.1) then
        k false
      else
        bif (a0.2.2.2.1 != a1.2.2.2.1) then
          k false
        else
          laws_eqRangeS_k a0.2.2.2.2.1 a1.2.2.2.2.1 (fun y1 =>
            bif (!y1) then
              k false
            else
              laws_eqWriteS_k a0.2.2.2.2.2.1 a1.2.2.2.2.2.1 (fun y2 =>
                bif (!y2) then
                  k false
                else
                  bif (!(a0.2.2.2.2.2.2.1 == a1.2.2.2.2.2.2.1)) then
                    k false
                  else
                    bif (!(strEq a0.2.2.2.2.2.2.2 a1.2.2.2.2.2.2.2)) then
                      k false
                    else
                      k true))

theorem laws_eqTxn_h : ∃ g : dTxn → dTxn → (Bool → Option Res) → Option Res, g = laws_eqTxn_d := ⟨_, rfl⟩
def laws_eqTxn_k : dTxn → dTxn → (Bool → Option Res) → Option Res := Classical.choose laws_eqTxn_h
theorem laws_eqTxn_e : laws_eqTxn_k = laws_eqTxn_d := Classical.choose_spec laws_eqTxn_h

theorem laws_eqTxn_p (a0 : dTxn) (a1 : dTxn) : Par (laws_eqTxn_k a0 a1) := by
  rw [laws_eqTxn_e]
  unfold laws_eqTxn_d
  exact (par_bif (par_ret _) (par_bif (par_ret _) (par_bif (par_ret _) (par_bif (par_ret _) ((laws_eqRangeS_p a0.2.2.2.2.1 a1.2.2.2.2.1).bind fun y1 => (par_bif (par_ret _) ((laws_eqWriteS_p a0.2.2.2.2.2.1 a1.2.2.2.2.2.1).bind fun y2 => (par_bif (par_ret _) (par_bif (par_ret _) (par_bif (par_ret _) (par_ret _)))))))))))

def laws_eqVersion_d (a0 : dVersion) (a1 : dVersion) (k : Bool → Option Res) : Option Res :=
  bif (!(strEq a0.1 a1.1)) then
    k false
  else
    bif (!(strEq a0.2.1 a1.2.1)) then
      k false
    else
      bif (!(a0.2.2.1 == a1.2.2.1)) then
        k false
      else
        bif (a0.2.2.2 != a1.2.2.2) then
          k false
        else
          k true

theorem laws_eqVersion_h : ∃ g : dVersion → dVersion → (Bool → Option Res) → Option Res, g = laws_eqVersion_d := ⟨_, rfl⟩
def laws_eqVersion_k : dVersion → dVersion → (Bool → Option Res) → Option Res := Classical.choose laws_eqVersion_h
theorem laws_eqVersion_e : laws_eqVersion_k = laws_eqVersion_d := Classical.choose_spec laws_eqVersion_h

theorem laws_eqVersion_p (a0 : dVersion) (a1 : dVersion) : Par (laws_eqVersion_k a0 a1) := by
  rw [laws_eqVersion_e]
  unfold laws_eqVersion_d
  exact (par_bif (par_ret _) (par_bif (par_ret _) (par_bif (par_ret _) (par_bif (par_ret _) (par_ret _)))))

def laws_eqVersionS_b0 (x : ((List dVersion) × (List dVersion) × Bool × Int)) (k : ((List dVersion) × (List dVersion) × Bool × Int) ⊕ (((List dVersion) × (List dVersion) × Bool × Int) ⊕ ((List dVersion) × (List dVersion) × Bool × Int)) → Option Res) : Option Res :=
    bif (decide (x.2.2.2 < (x.1.length : Int))) then
      if 0 ≤ x.2.2.2 ∧ x.2.2.2 < (x.1.length : Int) then
        if 0 ≤ x.2.2.2 ∧ x.2.2.2 < (x.2.1.length : Int) then
          laws_eqVersion_k (rd (Ty.zero tVersion) x.1 x.2.2.2) (rd (Ty.zero tVersion) x.2.1 x.2.2.2) (fun y3 =>
            bif (!y3) then
              k (.inr (.inl (x.1, x.2.1, false, x.2.2.2)))
            else
              k (.inl (x.1, x.2.1, x.2.2.1, (IntKind.wrap .i64 (x.2.2.2 + (1 : Int))))))
        else none
      else none
    else
      k (.inr (.inr (x.1, x.2.1, x.2.2.1, x.2.2.2)))

theorem laws_eqVersionS_bp0 (x : ((List dVersion) × (List dVersion) × Bool × Int)) : Par (laws_eqVersionS_b0 x) := by
  unfold laws_eqVersionS_b0
  exact (par_bif (par_ite (c := 0 ≤ x.2.2.2 ∧ x.2.2.2 < (x.1.length : Int)) (par_ite (c := 0 ≤ x.2.2.2 ∧ x.2.2.2 < (x.2.1.length : Int)) ((laws_eqVersion_p (rd (Ty.zero tVersion) x.1 x.2.2.2) (rd (Ty.zero tVersion) x.2.1 x.2.2.2)).bind fun y3 => (par_bif (par_ret _) (par_ret _))) par_none) par_none) (par_ret _))

def laws_eqVersionS_d (a0 : (List dVersion)) (a1 : (List dVersion)) (k : Bool → Option Res) : Option Res :=
  bif ((a0.length : Int) != (a1.length : Int)) then
    k false
  else
    loopK laws_eqVersionS_b0 Fuel (a0, a1, false, (0 : Int)) (Sum.elim (fun z1 =>
      k z1.2.2.1) (fun _ =>
      k true))

theorem laws_eqVersionS_h : ∃ g : (List dVersion) → (List dVersion) → (Bool → Option Res) → Option Res, g = laws_eqVersionS_d := ⟨_, rfl⟩
def laws_eqVersionS_k : (List dVersion) → (List dVersion) → (Bool → Option Res) → Option Res := Classical.choose laws_eqVersionS_h
theorem laws_eqVersionS_e : laws_eqVersionS_k = laws_eqVersionS_d := Classical.choose_spec laws_eqVersionS_h

theorem laws_eqVersionS_p (a0 : (List dVersion)) (a1 : (List dVersion)) : Par (laws_eqVersionS_k a0 a1) := by
  rw [laws_eqVersionS_e]
  unfold laws_eqVersionS_d
  exact (par_bif (par_ret _) ((par_loop laws_eqVersionS_bp0 Fuel (a0, a1, false, (0 : Int))).bind2 (fun z1 => (par_ret _)) (fun z2 => (par_ret _))))

def laws_markText_b0 (x : (Int × ByteArray)) (k : (Int × ByteArray) ⊕ (Int × ByteArray) → Option Res) : Option Res :=
    bif (decide (x.1 > (0 : Int))) then
      if (bytesOf [(IntKind.wrap .u8 (IntKind.wrap .i64 ((48 : Int) + (x.1.tmod (10 : Int)))))]).size + x.2.size ≤ 1099511627776 then
        k (.inl ((IntKind.wrap .i64 (x.1.tdiv (10 : Int))), ((bytesOf [(IntKind.wrap .u8 (IntKind.wrap .i64 ((48 : Int) + (x.1.tmod (10 : Int)))))]) ++ x.2)))
      else none
    else
      k (.inr (x.1, x.2))

theorem laws_markText_bp0 (x : (Int × ByteArray)) : Par (laws_markText_b0 x) := by
  unfold laws_markText_b0
  exact (par_bif (par_ite (c := (bytesOf [(IntKind.wrap .u8 (IntKind.wrap .i64 ((48 : Int) + (x.1.tmod (10 : Int)))))]).size + x.2.size ≤ 1099511627776) (par_ret _) par_none) (par_ret _))

def laws_markText_d (a0 : Int) (k : ByteArray → Option Res) : Option Res :=
  bif (decide (a0 ≤ (0 : Int))) then
    k (⟨#[109, 48]⟩ : ByteArray)
  else
    loopK laws_markText_b0 Fuel (a0, (⟨#[]⟩ : ByteArray)) (fun z1 =>
      if (⟨#[109]⟩ : ByteArray).size + z1.2.size ≤ 1099511627776 then
        k ((⟨#[109]⟩ : ByteArray) ++ z1.2)
      else none)

theorem laws_markText_h : ∃ g : Int → (ByteArray → Option Res) → Option Res, g = laws_markText_d := ⟨_, rfl⟩
def laws_markText_k : Int → (ByteArray → Option Res) → Option Res := Classical.choose laws_markText_h
theorem laws_markText_e : laws_markText_k = laws_markText_d := Classical.choose_spec laws_markText_h

theorem laws_markText_p (a0 : Int) : Par (laws_markText_k a0) := by
  rw [laws_markText_e]
  unfold laws_markText_d
  exact (par_bif (par_ret _) ((par_loop laws_markText_bp0 Fuel (a0, (⟨#[]⟩ : ByteArray))).bind fun z1 => (par_ite (c := (⟨#[109]⟩ : ByteArray).size + z1.2.size ≤ 1099511627776) (par_ret _) par_none)))

def laws_markRangeS_vo_b0 (x : (Int × Int × (List dRange))) (k : (Int × Int × (List dRange)) ⊕ (Int × Int × (List dRange)) → Option Res) : Option Res :=
    bif (decide (x.2.1 < (x.2.2.length : Int))) then
      laws_markText_k x.1 (fun y2 =>
        if 0 ≤ x.2.1 ∧ x.2.1 < (x.2.2.length : Int) then
          laws_markText_k (IntKind.wrap .i64 (x.1 + (1 : Int))) (fun y3 =>
            if 0 ≤ x.2.1 ∧ x.2.1 < ((x.2.2.set x.2.1.toNat (y2, (x.2.2.getD x.2.1.toNat (Ty.zero tRange)).2)).length : Int) then
              k (.inl ((IntKind.wrap .i64 ((IntKind.wrap .i64 (x.1 + (1 : Int))) + (1 : Int))), (IntKind.wrap .i64 (x.2.1 + (1 : Int))), ((x.2.2.set x.2.1.toNat (y2, (x.2.2.getD x.2.1.toNat (Ty.zero tRange)).2)).set x.2.1.toNat (((x.2.2.set x.2.1.toNat (y2, (x.2.2.getD x.2.1.toNat (Ty.zero tRange)).2)).getD x.2.1.toNat (Ty.zero tRange)).1, y3))))
            else none)
        else none)
    else
      k (.inr (x.1, x.2.1, x.2.2))

theorem laws_markRangeS_vo_bp0 (x : (Int × Int × (List dRange))) : Par (laws_markRangeS_vo_b0 x) := by
  unfold laws_markRangeS_vo_b0
  exact (par_bif ((laws_markText_p x.1).bind fun y2 => (par_ite (c := 0 ≤ x.2.1 ∧ x.2.1 < (x.2.2.length : Int)) ((laws_markText_p (IntKind.wrap .i64 (x.1 + (1 : Int)))).bind fun y3 => (par_ite (c := 0 ≤ x.2.1 ∧ x.2.1 < ((x.2.2.set x.2.1.toNat (y2, (x.2.2.getD x.2.1.toNat (Ty.zero tRange)).2)).length : Int)) (par_ret _) par_none)) par_none)) (par_ret _))

def laws_markRangeS_vo_d (a0 : Int) (a1 : (List dRange)) (k : (Int × (List dRange)) → Option Res) : Option Res :=
  loopK laws_markRangeS_vo_b0 Fuel (a0, (0 : Int), a1) (fun z1 =>
    k (z1.1, z1.2.2))

theorem laws_markRangeS_vo_h : ∃ g : Int → (List dRange) → ((Int × (List dRange)) → Option Res) → Option Res, g = laws_markRangeS_vo_d := ⟨_, rfl⟩
def laws_markRangeS_vo_k : Int → (List dRange) → ((Int × (List dRange)) → Option Res) → Option Res := Classical.choose laws_markRangeS_vo_h
theorem laws_markRangeS_vo_e : laws_markRangeS_vo_k = laws_markRangeS_vo_d := Classical.choose_spec laws_markRangeS_vo_h

theorem laws_markRangeS_vo_p (a0 : Int) (a1 : (List dRange)) : Par (laws_markRangeS_vo_k a0 a1) := by
  rw [laws_markRangeS_vo_e]
  unfold laws_markRangeS_vo_d
  exact ((par_loop laws_markRangeS_vo_bp0 Fuel (a0, (0 : Int), a1)).bind fun z1 => (par_ret _))

def laws_markWriteS_vo_b0 (x : (Int × Int × (List dWrite))) (k : (Int × Int × (List dWrite)) ⊕ (Int × Int × (List dWrite)) → Option Res) : Option Res :=
    bif (decide (x.2.1 < (x.2.2.length : Int))) then
      laws_markText_k x.1 (fun y2 =>
        if 0 ≤ x.2.1 ∧ x.2.1 < (x.2.2.length : Int) then
          laws_markText_k (IntKind.wrap .i64 (x.1 + (1 : Int))) (fun y3 =>
            if 0 ≤ x.2.1 ∧ x.2.1 < ((x.2.2.set x.2.1.toNat (y2, (x.2.2.getD x.2.1.toNat (Ty.zero tWrite)).2)).length : Int) then
              if 0 ≤ x.2.1 ∧ x.2.1 < (((x.2.2.set x.2.1.toNat (y2, (x.2.2.getD x.2.1.toNat (Ty.zero tWrite)).2)).set x.2.1.toNat (((x.2.2.set x.2.1.toNat (y2, (x.2.2.getD x.2.1.toNat (Ty.zero tWrite)).2)).getD x.2.1.toNat (Ty.zero tWrite)).1, (y3, ((x.2.2.set x.2.1.toNat (y2, (x.2.2.getD x.2.1.toNat (Ty.zero tWrite)).2)).getD x.2.1.toNat (Ty.zero tWrite)).2.2))).length : Int) then
                k (.inl ((IntKind.wrap .i64 ((IntKind.wrap .i64 ((IntKind.wrap .i64 (x.1 + (1 : Int))) + (1 : Int))) + (1 : Int))), (IntKind.wrap .i64 (x.2.1 + (1 : Int))), (((x.2.2.set x.2.1.toNat (y2, (x.2.2.getD x.2.1.toNat (Ty.zero tWrite)).2)).set x.2.1.toNat (((x.2.2.set x.2.1.toNat (y2, (x.2.2.getD x.2.1.toNat (Ty.zero tWrite)).2)).getD x.2.1.toNat (Ty.zero tWrite)).1, (y3, ((x.2.2.set x.2.1.toNat (y2, (x.2.2.getD x.2.1.toNat (Ty.zero tWrite)).2)).getD x.2.1.toNat (Ty.zero tWrite)).2.2))).set x.2.1.toNat ((((x.2.2.set x.2.1.toNat (y2, (x.2.2.getD x.2.1.toNat (Ty.zero tWrite)).2)).set x.2.1.toNat (((x.2.2.set x.2.1.toNat (y2, (x.2.2.getD x.2.1.toNat (Ty.zero tWrite)).2)).getD x.2.1.toNat (Ty.zero tWrite)).1, (y3, ((x.2.2.set x.2.1.toNat (y2, (x.2.2.getD x.2.1.toNat (Ty.zero tWrite)).2)).getD x.2.1.toNat (Ty.zero tWrite)).2.2))).getD x.2.1.toNat (Ty.zero tWrite)).1, ((((x.2.2.set x.2.1.toNat (y2, (x.2.2.getD x.2.1.toNat (Ty.zero tWrite)).2)).set x.2.1.toNat (((x.2.2.set x.2.1.toNat (y2, (x.2.2.getD x.2.1.toNat (Ty.zero tWrite)).2)).getD x.2.1.toNat (Ty.zero tWrite)).1, (y3, ((x.2.2.set x.2.1.toNat (y2, (x.2.2.getD x.2.1.toNat (Ty.zero tWrite)).2)).getD x.2.1.toNat (Ty.zero tWrite)).2.2))).getD x.2.1.toNat (Ty.zero tWrite)).2.1, (((IntKind.wrap .i64 ((IntKind.wrap .i64 (x.1 + (1 : Int))) + (1 : Int))).tmod (3 : Int)) == (0 : Int)))))))
              else none
            else none)
        else none)
    else
      k (.inr (x.1, x.2.1, x.2.2))

theorem laws_markWriteS_vo_bp0 (x : (Int × Int × (List dWrite))) : Par (laws_markWriteS_vo_b0 x) := by
  unfold laws_markWriteS_vo_b0
  exact (par_bif ((laws_markText_p x.1).bind fun y2 => (par_ite (c := 0 ≤ x.2.1 ∧ x.2.1 < (x.2.2.length : Int)) ((laws_markText_p (IntKind.wrap .i64 (x.1 + (1 : Int)))).bind fun y3 => (par_ite (c := 0 ≤ x.2.1 ∧ x.2.1 < ((x.2.2.set x.2.1.toNat (y2, (x.2.2.getD x.2.1.toNat (Ty.zero tWrite)).2)).length : Int)) (par_ite (c := 0 ≤ x.2.1 ∧ x.2.1 < (((x.2.2.set x.2.1.toNat (y2, (x.2.2.getD x.2.1.toNat (Ty.zero tWrite)).2)).set x.2.1.toNat (((x.2.2.set x.2.1.toNat (y2, (x.2.2.getD x.2.1.toNat (Ty.zero tWrite)).2)).getD x.2.1.toNat (Ty.zero tWrite)).1, (y3, ((x.2.2.set x.2.1.toNat (y2, (x.2.2.getD x.2.1.toNat (Ty.zero tWrite)).2)).getD x.2.1.toNat (Ty.zero tWrite)).2.2))).length : Int)) (par_ret _) par_none) par_none)) par_none)) (par_ret _))

def laws_markWriteS_vo_d (a0 : Int) (a1 : (List dWrite)) (k : (Int × (List dWrite)) → Option Res) : Option Res :=
  loopK laws_markWriteS_vo_b0 Fuel (a0, (0 : Int), a1) (fun z1 =>
    k (z1.1, z1.2.2))

theorem laws_markWriteS_vo_h : ∃ g : Int → (List dWrite) → ((Int × (List dWrite)) → Option Res) → Option Res, g = laws_markWriteS_vo_d := ⟨_, rfl⟩
def laws_markWriteS_vo_k : Int → (List dWrite) → ((Int × (List dWrite)) → Option Res) → Option Res := Classical.choose laws_markWriteS_vo_h
theorem laws_markWriteS_vo_e : laws_markWriteS_vo_k = laws_markWriteS_vo_d := Classical.choose_spec laws_markWriteS_vo_h

theorem laws_markWriteS_vo_p (a0 : Int) (a1 : (List dWrite)) : Par (laws_markWriteS_vo_k a0 a1) := by
  rw [laws_markWriteS_vo_e]
  unfold laws_markWriteS_vo_d
  exact ((par_loop laws_markWriteS_vo_bp0 Fuel (a0, (0 : Int), a1)).bind fun z1 => (par_ret _))

def laws_markTxn_va_d (a0 : Int) (a1 : Int) (a2 : Int) (a3 : Int) (a4 : Bool) (a5 : ByteArray) (a6 : Int) (a7 : (List dRange)) (a8 : (List dWrite)) (k : (Int × (List dRange) × (List dWrite)) → Option Res) : Option Res :=
  laws_markRangeS_vo_k a6 a7 (fun y1 =>
    laws_markWriteS_vo_k y1.1 a8 (fun y2 =>
      k (y2.1, y1.2, y2.2)))

theorem laws_markTxn_va_h : ∃ g : Int → Int → Int → Int → Bool → ByteArray → Int → (List dRange) → (List dWrite) → ((Int × (List dRange) × (List dWrite)) → Option Res) → Option Res, g = laws_markTxn_va_d := ⟨_, rfl⟩
def laws_markTxn_va_k : Int → Int → Int → Int → Bool → ByteArray → Int → (List dRange) → (List dWrite) → ((Int × (List dRange) × (List dWrite)) → Option Res) → Option Res := Classical.choose laws_markTxn_va_h
theorem laws_markTxn_va_e : laws_markTxn_va_k = laws_markTxn_va_d := Classical.choose_spec laws_markTxn_va_h

theorem laws_markTxn_va_p (a0 : Int) (a1 : Int) (a2 : Int) (a3 : Int) (a4 : Bool) (a5 : ByteArray) (a6 : Int) (a7 : (List dRange)) (a8 : (List dWrite)) : Par (laws_markTxn_va_k a0 a1 a2 a3 a4 a5 a6 a7 a8) := by
  rw [laws_markTxn_va_e]
  unfold laws_markTxn_va_d
  exact ((laws_markRangeS_vo_p a6 a7).bind fun y1 => ((laws_markWriteS_vo_p y1.1 a8).bind fun y2 => (par_ret _)))

def laws_markVersionS_vo_b0 (x : (Int × Int × (List dVersion))) (k : (Int × Int × (List dVersion)) ⊕ (Int × Int × (List dVersion)) → Option Res) : Option Res :=
    bif (decide (x.2.1 < (x.2.2.length : Int))) then
      laws_markText_k x.1 (fun y2 =>
        if 0 ≤ x.2.1 ∧ x.2.1 < (x.2.2.length : Int) then
          laws_markText_k (IntKind.wrap .i64 (x.1 + (1 : Int))) (fun y3 =>
            if 0 ≤ x.2.1 ∧ x.2.1 < ((x.2.2.set x.2.1.toNat (y2, (x.2.2.getD x.2.1.toNat (Ty.zero tVersion)).2)).length : Int) then
              if 0 ≤ x.2.1 ∧ x.2.1 < (((x.2.2.set x.2.1.toNat (y2, (x.2.2.getD x.2.1.toNat (Ty.zero tVersion)).2)).set x.2.1.toNat (((x.2.2.set x.2.1.toNat (y2, (x.2.2.getD x.2.1.toNat (Ty.zero tVersion)).2)).getD x.2.1.toNat (Ty.zero tVersion)).1, (y3, ((x.2.2.set x.2.1.toNat (y2, (x.2.2.getD x.2.1.toNat (Ty.zero tVersion)).2)).getD x.2.1.toNat (Ty.zero tVersion)).2.2))).length : Int) then
                if 0 ≤ x.2.1 ∧ x.2.1 < ((((x.2.2.set x.2.1.toNat (y2, (x.2.2.getD x.2.1.toNat (Ty.zero tVersion)).2)).set x.2.1.toNat (((x.2.2.set x.2.1.toNat (y2, (x.2.2.getD x.2.1.toNat (Ty.zero tVersion)).2)).getD x.2.1.toNat (Ty.zero tVersion)).1, (y3, ((x.2.2.set x.2.1.toNat (y2, (x.2.2.getD x.2.1.toNat (Ty.zero tVersion)).2)).getD x.2.1.toNat (Ty.zero tVersion)).2.2))).set x.2.1.toNat ((((x.2.2.set x.2.1.toNat (y2, (x.2.2.getD x.2.1.toNat (Ty.zero tVersion)).2)).set x.2.1.toNat (((x.2.2.set x.2.1.toNat (y2, (x.2.2.getD x.2.1.toNat (Ty.zero tVersion)).2)).getD x.2.1.toNat (Ty.zero tVersion)).1, (y3, ((x.2.2.set x.2.1.toNat (y2, (x.2.2.getD x.2.1.toNat (Ty.zero tVersion)).2)).getD x.2.1.toNat (Ty.zero tVersion)).2.2))).getD x.2.1.toNat (Ty.zero tVersion)).1, ((((x.2.2.set x.2.1.toNat (y2, (x.2.2.getD x.2.1.toNat (Ty.zero tVersion)).2)).set x.2.1.toNat (((x.2.2.set x.2.1.toNat (y2, (x.2.2.getD x.2.1.toNat (Ty.zero tVersion)).2)).getD x.2.1.toNat (Ty.zero tVersion)).1, (y3, ((x.2.2.set x.2.1.toNat (y2, (x.2.2.getD x.2.1.toNat (Ty.zero tVersion)).2)).getD x.2.1.toNat (Ty.zero tVersion)).2.2))).getD x.2.1.toNat (Ty.zero tVersion)).2.1, ((((IntKind.wrap .i64 ((IntKind.wrap .i64 (x.1 + (1 : Int))) + (1 : Int))).tmod (3 : Int)) == (0 : Int)), (((x.2.2.set x.2.1.toNat (y2, (x.2.2.getD x.2.1.toNat (Ty.zero tVersion)).2)).set x.2.1.toNat (((x.2.2.set x.2.1.toNat (y2, (x.2.2.getD x.2.1.toNat (Ty.zero tVersion)).2)).getD x.2.1.toNat (Ty.zero tVersion)).1, (y3, ((x.2.2.set x.2.1.toNat (y2, (x.2.2.getD x.2.1.toNat (Ty.zero tVersion)).2)).getD x.2.1.toNat (Ty.zero tVersion)).2.2))).getD x.2.1.toNat (Ty.zero tVersion)).2.2.2)))).length : Int) then
                  k (.inl ((IntKind.wrap .i64 ((IntKind.wrap .i64 ((IntKind.wrap .i64 ((IntKind.wrap .i64 (x.1 + (1 : Int))) + (1 : Int))) + (1 : Int))) + (1 : Int))), (IntKind.wrap .i64 (x.2.1 + (1 : Int))), ((((x.2.2.set x.2.1.toNat (y2, (x.2.2.getD x.2.1.toNat (Ty.zero tVersion)).2)).set x.2.1.toNat (((x.2.2.set x.2.1.toNat (y2, (x.2.2.getD x.2.1.toNat (Ty.zero tVersion)).2)).getD x.2.1.toNat (Ty.zero tVersion)).1, (y3, ((x.2.2.set x.2.1.toNat (y2, (x.2.2.getD x.2.1.toNat (Ty.zero tVersion)).2)).getD x.2.1.toNat (Ty.zero tVersion)).2.2))).set x.2.1.toNat ((((x.2.2.set x.2.1.toNat (y2, (x.2.2.getD x.2.1.toNat (Ty.zero tVersion)).2)).set x.2.1.toNat (((x.2.2.set x.2.1.toNat (y2, (x.2.2.getD x.2.1.toNat (Ty.zero tVersion)).2)).getD x.2.1.toNat (Ty.zero tVersion)).1, (y3, ((x.2.2.set x.2.1.toNat (y2, (x.2.2.getD x.2.1.toNat (Ty.zero tVersion)).2)).getD x.2.1.toNat (Ty.zero tVersion)).2.2))).getD x.2.1.toNat (Ty.zero tVersion)).1, ((((x.2.2.set x.2.1.toNat (y2, (x.2.2.getD x.2.1.toNat (Ty.zero tVersion)).2)).set x.2.1.toNat (((x.2.2.set x.2.1.toNat (y2, (x.2.2.getD x.2.1.toNat (Ty.zero tVersion)).2)).getD x.2.1.toNat (Ty.zero tVersion)).1, (y3, ((x.2.2.set x.2.1.toNat (y2, (x.2.2.getD x.2.1.toNat (Ty.zero tVersion)).2)).getD x.2.1.toNat (Ty.zero tVersion)).2.2))).getD x.2.1.toNat (Ty.zero tVersion)).2.1, ((((IntKind.wrap .i64 ((IntKind.wrap .i64 (x.1 + (1 : Int))) + (1 : Int))).tmod (3 : Int)) == (0 : Int)), (((x.2.2.set x.2.1.toNat (y2, (x.2.2.getD x.2.1.toNat (Ty.zero tVersion)).2)).set x.2.1.toNat (((x.2.2.set x.2.1.toNat (y2, (x.2.2.getD x.2.1.toNat (Ty.zero tVersion)).2)).getD x.2.1.toNat (Ty.zero tVersion)).1, (y3, ((x.2.2.set x.2.1.toNat (y2, (x.2.2.getD x.2.1.toNat (Ty.zero tVersion)).2)).getD x.2.1.toNat (Ty.zero tVersion)).2.2))).getD x.2.1.toNat (Ty.zero tVersion)).2.2.2)))).set x.2.1.toNat (((((x.2.2.set x.2.1.toNat (y2, (x.2.2.getD x.2.1.toNat (Ty.zero tVersion)).2)).set x.2.1.toNat (((x.2.2.set x.2.1.toNat (y2, (x.2.2.getD x.2.1.toNat (Ty.zero tVersion)).2)).getD x.2.1.toNat (Ty.zero tVersion)).1, (y3, ((x.2.2.set x.2.1.toNat (y2, (x.2.2.getD x.2.1.toNat (Ty.zero tVersion)).2)).getD x.2.1.toNat (Ty.zero tVersion)).2.2))).set x.2.1.toNat ((((x.2.2.set x.2.1.toNat (y2, (x.2.2.getD x.2.1.toNat (Ty.zero tVersion)).2)).set x.2.1.toNat (((x.2.2.set x.2.1.toNat (y2, (x.2.2.getD x.2.1.toNat (Ty.zero tVersion)).2)).getD x.2.1.toNat (Ty.zero tVersion)).1, (y3, ((x.2.2.set x.2.1.toNat (y2, (x.2.2.getD x.2.1.toNat (Ty.zero tVersion)).2)).getD x.2.1.toNat (Ty.zero tVersion)).2.2))).getD x.2.1.toNat (Ty.zero tVersion)).1, ((((x.2.2.set x.2.1.toNat (y2, (x.2.2.getD x.2.1.toNat (Ty.zero tVersion)).2)).set x.2.1.toNat (((x.2.2.set x.2.1.toNat (y2, (x.2.2.getD x.2.1.toNat (Ty.zero tVersion)).2)).getD x.2.1.toNat (Ty.zero tVersion)).1, (y3, ((x.2.2.set x.2.1.toNat (y2, (x.2.2.getD x.2.1.toNat (Ty.zero tVersion)).2)).getD x.2.1.toNat (Ty.zero tVersion)).2.2))).getD x.2.1.toNat (Ty.zero tVersion)).2.1, ((((IntKind.wrap .i64 ((IntKind.wrap .i64 (x.1 + (1 : Int))) + (1 : Int))).tmod (3 : Int)) == (0 : Int)), (((x.2.2.set x.2.1.toNat (y2, (x.2.2.getD x.2.1.toNat (Ty.zero tVersion)).2)).set x.2.1.toNat (((x.2.2.set x.2.1.toNat (y2, (x.2.2.getD x.2.1.toNat (Ty.zero tVersion)).2)).getD x.2.1.toNat (Ty.zero tVersion)).1, (y3, ((x.2.2.set x.2.1.toNat (y2, (x.2.2.getD x.2.1.toNat (Ty.zero tVersion)).2)).getD x.2.1.toNat (Ty.zero tVersion)).2.2))).getD x.2.1.toNat (Ty.zero tVersion)).2.2.2)))).getD x.2.1.toNat (Ty.zero tVersion)).1, (((((x.2.2.set x.2.1.toNat (y2, (x.2.2.getD x.2.1.toNat (Ty.zero tVersion)).2)).set x.2.1.toNat (((x.2.2.set x.2.1.toNat (y2, (x.2.2.getD x.2.1.toNat (Ty.zero tVersion)).2)).getD x.2.1.toNat (Ty.zero tVersion)).1, (y3, ((x.2.2.set x.2.1.toNat (y2, (x.2.2.getD x.2.1.toNat (Ty.zero tVersion)).2)).getD x.2.1.toNat (Ty.zero tVersion)).2.2))).set x.2.1.toNat ((((x.2.2.set x.2.1.toNat (y2, (x.2.2.getD x.2.1.toNat (Ty.zero tVersion)).2)).set x.2.1.toNat (((x.2.2.set x.2.1.toNat (y2, (x.2.2.getD x.2.1.toNat (Ty.zero tVersion)).2)).getD x.2.1.toNat (Ty.zero tVersion)).1, (y3, ((x.2.2.set x.2.1.toNat (y2, (x.2.2.getD x.2.1.toNat (Ty.zero tVersion)).2)).getD x.2.1.toNat (Ty.zero tVersion)).2.2))).getD x.2.1.toNat (Ty.zero tVersion)).1, ((((x.2.2.set x.2.1.toNat (y2, (x.2.2.getD x.2.1.toNat (Ty.zero tVersion)).2)).set x.2.1.toNat (((x.2.2.set x.2.1.toNat (y2, (x.2.2.getD x.2.1.toNat (Ty.zero tVersion)).2)).getD x.2.1.toNat (Ty.zero tVersion)).1, (y3, ((x.2.2.set x.2.1.toNat (y2, (x.2.2.getD x.2.1.toNat (Ty.zero tVersion)).2)).getD x.2.1.toNat (Ty.zero tVersion)).2.2))).getD x.2.1.toNat (Ty.zero tVersion)).2.1, ((((IntKind.wrap .i64 ((IntKind.wrap .i64 (x.1 + (1 : Int))) + (1 : Int))).tmod (3 : Int)) == (0 : Int)), (((x.2.2.set x.2.1.toNat (y2, (x.2.2.getD x.2.1.toNat (Ty.zero tVersion)).2)).set x.2.1.toNat (((x.2.2.set x.2.1.toNat (y2, (x.2.2.getD x.2.1.toNat (Ty.zero tVersion)).2)).getD x.2.1.toNat (Ty.zero tVersion)).1, (y3, ((x.2.2.set x.2.1.toNat (y2, (x.2.2.getD x.2.1.toNat (Ty.zero tVersion)).2)).getD x.2.1.toNat (Ty.zero tVersion)).2.2))).getD x.2.1.toNat (Ty.zero tVersion)).2.2.2)))).getD x.2.1.toNat (Ty.zero tVersion)).2.1, (((((x.2.2.set x.2.1.toNat (y2, (x.2.2.getD x.2.1.toNat (Ty.zero tVersion)).2)).set x.2.1.toNat (((x.2.2.set x.2.1.toNat (y2, (x.2.2.getD x.2.1.toNat (Ty.zero tVersion)).2)).getD x.2.1.toNat (Ty.zero tVersion)).1, (y3, ((x.2.2.set x.2.1.toNat (y2, (x.2.2.getD x.2.1.toNat (Ty.zero tVersion)).2)).getD x.2.1.toNat (Ty.zero tVersion)).2.2))).set x.2.1.toNat ((((x.2.2.set x.2.1.toNat (y2, (x.2.2.getD x.2.1.toNat (Ty.zero tVersion)).2)).set x.2.1.toNat (((x.2.2.set x.2.1.toNat (y2, (x.2.2.getD x.2.1.toNat (Ty.zero tVersion)).2)).getD x.2.1.toNat (Ty.zero tVersion)).1, (y3, ((x.2.2.set x.2.1.toNat (y2, (x.2.2.getD x.2.1.toNat (Ty.zero tVersion)).2)).getD x.2.1.toNat (Ty.zero tVersion)).2.2))).getD x.2.1.toNat (Ty.zero tVersion)).1, ((((x.2.2.set x.2.1.toNat (y2, (x.2.2.getD x.2.1.toNat (Ty.zero tVersion)).2)).set x.2.1.toNat (((x.2.2.set x.2.1.toNat (y2, (x.2.2.getD x.2.1.toNat (Ty.zero tVersion)).2)).getD x.2.1.toNat (Ty.zero tVersion)).1, (y3, ((x.2.2.set x.2.1.toNat (y2, (x.2.2.getD x.2.1.toNat (Ty.zero tVersion)).2)).getD x.2.1.toNat (Ty.zero tVersion)).2.2))).getD x.2.1.toNat (Ty.zero tVersion)).2.1, ((((IntKind.wrap .i64 ((IntKind.wrap .i64 (x.1 + (1 : Int))) + (1 : Int))).tmod (3 : Int)) == (0 : Int)), (((x.2.2.set x.2.1.toNat (y2, (x.2.2.getD x.2.1.toNat (Ty.zero tVersion)).2)).set x.2.1.toNat (((x.2.2.set x.2.1.toNat (y2, (x.2.2.getD x.2.1.toNat (Ty.zero tVersion)).2)).getD x.2.1.toNat (Ty.zero tVersion)).1, (y3, ((x.2.2.set x.2.1.toNat (y2, (x.2.2.getD x.2.1.toNat (Ty.zero tVersion)).2)).getD x.2.1.toNat (Ty.zero tVersion)).2.2))).getD x.2.1.toNat (Ty.zero tVersion)).2.2.2)))).getD x.2.1.toNat (Ty.zero tVersion)).2.2.1, (IntKind.wrap .i64 ((IntKind.wrap .i64 ((IntKind.wrap .i64 (x.1 + (1 : Int))) + (1 : Int))) + (1 : Int)))))))))
                else none
              else none
            else none)
        else none)
    else
      k (.inr (x.1, x.2.1, x.2.2))

theorem laws_markVersionS_vo_bp0 (x : (Int × Int × (List dVersion))) : Par (laws_markVersionS_vo_b0 x) := by
  unfold laws_markVersionS_vo_b0
  exact (par_bif ((laws_markText_p x.1).bind fun y2 => (par_ite (c := 0 ≤ x.2.1 ∧ x.2.1 < (x.2.2.length : Int)) ((laws_markText_p (IntKind.wrap .i64 (x.1 + (1 : Int)))).bind fun y3 => (par_ite (c := 0 ≤ x.2.1 ∧ x.2.1 < ((x.2.2.set x.2.1.toNat (y2, (x.2.2.getD x.2.1.toNat (Ty.zero tVersion)).2)).length : Int)) (par_ite (c := 0 ≤ x.2.1 ∧ x.2.1 < (((x.2.2.set x.2.1.toNat (y2, (x.2.2.getD x.2.1.toNat (Ty.zero tVersion)).2)).set x.2.1.toNat (((x.2.2.set x.2.1.toNat (y2, (x.2.2.getD x.2.1.toNat (Ty.zero tVersion)).2)).getD x.2.1.toNat (Ty.zero tVersion)).1, (y3, ((x.2.2.set x.2.1.toNat (y2, (x.2.2.getD x.2.1.toNat (Ty.zero tVersion)).2)).getD x.2.1.toNat (Ty.zero tVersion)).2.2))).length : Int)) (par_ite (c := 0 ≤ x.2.1 ∧ x.2.1 < ((((x.2.2.set x.2.1.toNat (y2, (x.2.2.getD x.2.1.toNat (Ty.zero tVersion)).2)).set x.2.1.toNat (((x.2.2.set x.2.1.toNat (y2, (x.2.2.getD x.2.1.toNat (Ty.zero tVersion)).2)).getD x.2.1.toNat (Ty.zero tVersion)).1, (y3, ((x.2.2.set x.2.1.toNat (y2, (x.2.2.getD x.2.1.toNat (Ty.zero tVersion)).2)).getD x.2.1.toNat (Ty.zero tVersion)).2.2))).set x.2.1.toNat ((((x.2.2.set x.2.1.toNat (y2, (x.2.2.getD x.2.1.toNat (Ty.zero tVersion)).2)).set x.2.1.toNat (((x.2.2.set x.2.1.toNat (y2, (x.2.2.getD x.2.1.toNat (Ty.zero tVersion)).2)).getD x.2.1.toNat (Ty.zero tVersion)).1, (y3, ((x.2.2.set x.2.1.toNat (y2, (x.2.2.getD x.2.1.toNat (Ty.zero tVersion)).2)).getD x.2.1.toNat (Ty.zero tVersion)).2.2))).getD x.2.1.toNat (Ty.zero tVersion)).1, ((((x.2.2.set x.2.1.toNat (y2, (x.2.2.getD x.2.1.toNat (Ty.zero tVersion)).2)).set x.2.1.toNat (((x.2.2.set x.2.1.toNat (y2, (x.2.2.getD x.2.1.toNat (Ty.zero tVersion)).2)).getD x.2.1.toNat (Ty.zero tVersion)).1, (y3, ((x.2.2.set x.2.1.toNat (y2, (x.2.2.getD x.2.1.toNat (Ty.zero tVersion)).2)).getD x.2.1.toNat (Ty.zero tVersion)).2.2))).getD x.2.1.toNat (Ty.zero tVersion)).2.1, ((((IntKind.wrap .i64 ((IntKind.wrap .i64 (x.1 + (1 : Int))) + (1 : Int))).tmod (3 : Int)) == (0 : Int)), (((x.2.2.set x.2.1.toNat (y2, (x.2.2.getD x.2.1.toNat (Ty.zero tVersion)).2)).set x.2.1.toNat (((x.2.2.set x.2.1.toNat (y2, (x.2.2.getD x.2.1.toNat (Ty.zero tVersion)).2)).getD x.2.1.toNat (Ty.zero tVersion)).1, (y3, ((x.2.2.set x.2.1.toNat (y2, (x.2.2.getD x.2.1.toNat (Ty.zero tVersion)).2)).getD x.2.1.toNat (Ty.zero tVersion)).2.2))).getD x.2.1.toNat (Ty.zero tVersion)).2.2.2)))).length : Int)) (par_ret _) par_none) par_none) par_none)) par_none)) (par_ret _))

def laws_markVersionS_vo_d (a0 : Int) (a1 : (List dVersion)) (k : (Int × (List dVersion)) → Option Res) : Option Res :=
  loopK laws_markVersionS_vo_b0 Fuel (a0, (0 : Int), a1) (fun z1 =>
    k (z1.1, z1.2.2))

theorem laws_markVersionS_vo_h : ∃ g : Int → (List dVersion) → ((Int × (List dVersion)) → Option Res) → Option Res, g = laws_markVersionS_vo_d := ⟨_, rfl⟩
def laws_markVersionS_vo_k : Int → (List dVersion) → ((Int × (List dVersion)) → Option Res) → Option Res := Classical.choose laws_markVersionS_vo_h
theorem laws_markVersionS_vo_e : laws_markVersionS_vo_k = laws_markVersionS_vo_d := Classical.choose_spec laws_markVersionS_vo_h

theorem laws_markVersionS_vo_p (a0 : Int) (a1 : (List dVersion)) : Par (laws_markVersionS_vo_k a0 a1) := by
  rw [laws_markVersionS_vo_e]
  unfold laws_markVersionS_vo_d
  exact ((par_loop laws_markVersionS_vo_bp0 Fuel (a0, (0 : Int), a1)).bind fun z1 => (par_ret _))

def laws_markPairS_vo_b0 (x : (Int × Int × (List dRange))) (k : (Int × Int × (List dRange)) ⊕ (Int × Int × (List dRange)) → Option Res) : Option Res :=
    bif (decide (x.2.1 < (x.2.2.length : Int))) then
      laws_markText_k x.1 (fun y2 =>
        if 0 ≤ x.2.1 ∧ x.2.1 < (x.2.2.length : Int) then
          laws_markText_k (IntKind.wrap .i64 (x.1 + (1 : Int))) (fun y3 =>
            if 0 ≤ x.2.1 ∧ x.2.1 < ((x.2.2.set x.2.1.toNat (y2, (x.2.2.getD x.2.1.toNat (Ty.zero tRange)).2)).length : Int) then
              k (.inl ((IntKind.wrap .i64 ((IntKind.wrap .i64 (x.1 + (1 : Int))) + (1 : Int))), (IntKind.wrap .i64 (x.2.1 + (1 : Int))), ((x.2.2.set x.2.1.toNat (y2, (x.2.2.getD x.2.1.toNat (Ty.zero tRange)).2)).set x.2.1.toNat (((x.2.2.set x.2.1.toNat (y2, (x.2.2.getD x.2.1.toNat (Ty.zero tRange)).2)).getD x.2.1.toNat (Ty.zero tRange)).1, y3))))
            else none)
        else none)
    else
      k (.inr (x.1, x.2.1, x.2.2))

theorem laws_markPairS_vo_bp0 (x : (Int × Int × (List dRange))) : Par (laws_markPairS_vo_b0 x) := by
  unfold laws_markPairS_vo_b0
  exact (par_bif ((laws_markText_p x.1).bind fun y2 => (par_ite (c := 0 ≤ x.2.1 ∧ x.2.1 < (x.2.2.length : Int)) ((laws_markText_p (IntKind.wrap .i64 (x.1 + (1 : Int)))).bind fun y3 => (par_ite (c := 0 ≤ x.2.1 ∧ x.2.1 < ((x.2.2.set x.2.1.toNat (y2, (x.2.2.getD x.2.1.toNat (Ty.zero tRange)).2)).length : Int)) (par_ret _) par_none)) par_none)) (par_ret _))

def laws_markPairS_vo_d (a0 : Int) (a1 : (List dRange)) (k : (Int × (List dRange)) → Option Res) : Option Res :=
  loopK laws_markPairS_vo_b0 Fuel (a0, (0 : Int), a1) (fun z1 =>
    k (z1.1, z1.2.2))

theorem laws_markPairS_vo_h : ∃ g : Int → (List dRange) → ((Int × (List dRange)) → Option Res) → Option Res, g = laws_markPairS_vo_d := ⟨_, rfl⟩
def laws_markPairS_vo_k : Int → (List dRange) → ((Int × (List dRange)) → Option Res) → Option Res := Classical.choose laws_markPairS_vo_h
theorem laws_markPairS_vo_e : laws_markPairS_vo_k = laws_markPairS_vo_d := Classical.choose_spec laws_markPairS_vo_h

theorem laws_markPairS_vo_p (a0 : Int) (a1 : (List dRange)) : Par (laws_markPairS_vo_k a0 a1) := by
  rw [laws_markPairS_vo_e]
  unfold laws_markPairS_vo_d
  exact ((par_loop laws_markPairS_vo_bp0 Fuel (a0, (0 : Int), a1)).bind fun z1 => (par_ret _))

def laws_heldPairS_b0 (x : ((List dRange) × Int × Int × Int)) (k : ((List dRange) × Int × Int × Int) ⊕ (((List dRange) × Int × Int × Int) ⊕ ((List dRange) × Int × Int × Int)) → Option Res) : Option Res :=
    bif (decide (x.2.2.2 < (x.1.length : Int))) then
      if 0 ≤ x.2.2.2 ∧ x.2.2.2 < (x.1.length : Int) then
        laws_markText_k x.2.1 (fun y3 =>
          bif (!(strEq ((rd (Ty.zero tRange) x.1 x.2.2.2).1) y3)) then
            k (.inr (.inl (x.1, x.2.1, (-1 : Int), x.2.2.2)))
          else
            if 0 ≤ x.2.2.2 ∧ x.2.2.2 < (x.1.length : Int) then
              laws_markText_k (IntKind.wrap .i64 (x.2.1 + (1 : Int))) (fun y4 =>
                bif (!(strEq ((rd (Ty.zero tRange) x.1 x.2.2.2).2) y4)) then
                  k (.inr (.inl (x.1, (IntKind.wrap .i64 (x.2.1 + (1 : Int))), (-1 : Int), x.2.2.2)))
                else
                  k (.inl (x.1, (IntKind.wrap .i64 ((IntKind.wrap .i64 (x.2.1 + (1 : Int))) + (1 : Int))), x.2.2.1, (IntKind.wrap .i64 (x.2.2.2 + (1 : Int))))))
            else none)
      else none
    else
      k (.inr (.inr (x.1, x.2.1, x.2.2.1, x.2.2.2)))

theorem laws_heldPairS_bp0 (x : ((List dRange) × Int × Int × Int)) : Par (laws_heldPairS_b0 x) := by
  unfold laws_heldPairS_b0
  exact (par_bif (par_ite (c := 0 ≤ x.2.2.2 ∧ x.2.2.2 < (x.1.length : Int)) ((laws_markText_p x.2.1).bind fun y3 => (par_bif (par_ret _) (par_ite (c := 0 ≤ x.2.2.2 ∧ x.2.2.2 < (x.1.length : Int)) ((laws_markText_p (IntKind.wrap .i64 (x.2.1 + (1 : Int)))).bind fun y4 => (par_bif (par_ret _) (par_ret _))) par_none))) par_none) (par_ret _))

def laws_heldPairS_d (a0 : (List dRange)) (a1 : Int) (k : Int → Option Res) : Option Res :=
  loopK laws_heldPairS_b0 Fuel (a0, a1, (0 : Int), (0 : Int)) (Sum.elim (fun z1 =>
    k z1.2.2.1) (fun z2 =>
    k z2.2.1))

theorem laws_heldPairS_h : ∃ g : (List dRange) → Int → (Int → Option Res) → Option Res, g = laws_heldPairS_d := ⟨_, rfl⟩
def laws_heldPairS_k : (List dRange) → Int → (Int → Option Res) → Option Res := Classical.choose laws_heldPairS_h
theorem laws_heldPairS_e : laws_heldPairS_k = laws_heldPairS_d := Classical.choose_spec laws_heldPairS_h

theorem laws_heldPairS_p (a0 : (List dRange)) (a1 : Int) : Par (laws_heldPairS_k a0 a1) := by
  rw [laws_heldPairS_e]
  unfold laws_heldPairS_d
  exact ((par_loop laws_heldPairS_bp0 Fuel (a0, a1, (0 : Int), (0 : Int))).bind2 (fun z1 => (par_ret _)) (fun z2 => (par_ret _)))

def laws_FnExactOwnScan_j5000026 (x : ((List dVersion) × Bool × Int × Int × Int × Int × (List dRange) × (List dWrite) × Bool × ByteArray × ByteArray × ByteArray × (List dRange) × (List dRange))) (k : ((List dVersion) × Bool × Int × Int × Int × Int × (List dRange) × (List dWrite) × Bool × ByteArray × ByteArray × ByteArray × (List dRange) × (List dRange)) → Option Res) : Option Res :=
    laws_markPairS_vo_k (1 : Int) x.2.2.2.2.2.2.2.2.2.2.2.2.2 (fun y21 =>
      laws_heldPairS_k y21.2 (1 : Int) (fun y22 =>
        bif (decide (y22 < (0 : Int))) then
          k (x.1, false, x.2.2.1, x.2.2.2.1, x.2.2.2.2.1, x.2.2.2.2.2.1, x.2.2.2.2.2.2.1, x.2.2.2.2.2.2.2.1, x.2.2.2.2.2.2.2.2.1, x.2.2.2.2.2.2.2.2.2.1, x.2.2.2.2.2.2.2.2.2.2.1, x.2.2.2.2.2.2.2.2.2.2.2.1, x.2.2.2.2.2.2.2.2.2.2.2.2.1, y21.2)
        else
          bif (y22 != y21.1) then
            k (x.1, false, x.2.2.1, x.2.2.2.1, x.2.2.2.2.1, x.2.2.2.2.2.1, x.2.2.2.2.2.2.1, x.2.2.2.2.2.2.2.1, x.2.2.2.2.2.2.2.2.1, x.2.2.2.2.2.2.2.2.2.1, x.2.2.2.2.2.2.2.2.2.2.1, x.2.2.2.2.2.2.2.2.2.2.2.1, x.2.2.2.2.2.2.2.2.2.2.2.2.1, y21.2)
          else
            laws_toTxn_k (x.2.2.1, (x.2.2.2.1, (x.2.2.2.2.1, (x.2.2.2.2.2.1, (x.2.2.2.2.2.2.1, (x.2.2.2.2.2.2.2.1, (x.2.2.2.2.2.2.2.2.1, x.2.2.2.2.2.2.2.2.2.1))))))) (fun y23 =>
              laws_toVersionS_k x.1 (fun y24 =>
                laws_toRange_k (x.2.2.2.2.2.2.2.2.2.2.1, x.2.2.2.2.2.2.2.2.2.2.2.1) (fun y25 =>
                  impl_OwnScan_k (y23.1, (y23.2.1, (y23.2.2.1, (y23.2.2.2.1, (y23.2.2.2.2.2.2.1, (y23.2.2.2.2.2.2.2, (y23.2.2.2.2.1, y23.2.2.2.2.2.1))))))) y24 y25 (fun y26 =>
                    laws_eqPairS_k y26 x.2.2.2.2.2.2.2.2.2.2.2.2.1 (fun y27 =>
                      bif (!y27) then
                        k (x.1, false, x.2.2.1, x.2.2.2.1, x.2.2.2.2.1, x.2.2.2.2.2.1, x.2.2.2.2.2.2.1, x.2.2.2.2.2.2.2.1, x.2.2.2.2.2.2.2.2.1, x.2.2.2.2.2.2.2.2.2.1, x.2.2.2.2.2.2.2.2.2.2.1, x.2.2.2.2.2.2.2.2.2.2.2.1, x.2.2.2.2.2.2.2.2.2.2.2.2.1, y21.2)
                      else
                        laws_heldPairS_k y21.2 (1 : Int) (fun y28 =>
                          bif (decide (y28 < (0 : Int))) then
                            k (x.1, false, x.2.2.1, x.2.2.2.1, x.2.2.2.2.1, x.2.2.2.2.2.1, x.2.2.2.2.2.2.1, x.2.2.2.2.2.2.2.1, x.2.2.2.2.2.2.2.2.1, x.2.2.2.2.2.2.2.2.2.1, x.2.2.2.2.2.2.2.2.2.2.1, x.2.2.2.2.2.2.2.2.2.2.2.1, x.2.2.2.2.2.2.2.2.2.2.2.2.1, y21.2)
                          else
                            bif (y28 != y21.1) then
                              k (x.1, false, x.2.2.1, x.2.2.2.1, x.2.2.2.2.1, x.2.2.2.2.2.1, x.2.2.2.2.2.2.1, x.2.2.2.2.2.2.2.1, x.2.2.2.2.2.2.2.2.1, x.2.2.2.2.2.2.2.2.2.1, x.2.2.2.2.2.2.2.2.2.2.1, x.2.2.2.2.2.2.2.2.2.2.2.1, x.2.2.2.2.2.2.2.2.2.2.2.2.1, y21.2)
                            else
                              k (x.1, true, x.2.2.1, x.2.2.2.1, x.2.2.2.2.1, x.2.2.2.2.2.1, x.2.2.2.2.2.2.1, x.2.2.2.2.2.2.2.1, x.2.2.2.2.2.2.2.2.1, x.2.2.2.2.2.2.2.2.2.1, x.2.2.2.2.2.2.2.2.2.2.1, x.2.2.2.2.2.2.2.2.2.2.2.1, x.2.2.2.2.2.2.2.2.2.2.2.2.1, y21.2)))))))))

theorem laws_FnExactOwnScan_jp5000026 (x : ((List dVersion) × Bool × Int × Int × Int × Int × (List dRange) × (List dWrite) × Bool × ByteArray × ByteArray × ByteArray × (List dRange) × (List dRange))) : Par (laws_FnExactOwnScan_j5000026 x) := by
  unfold laws_FnExactOwnScan_j5000026
  exact ((laws_markPairS_vo_p (1 : Int) x.2.2.2.2.2.2.2.2.2.2.2.2.2).bind fun y21 => ((laws_heldPairS_p y21.2 (1 : Int)).bind fun y22 => (par_bif (par_ret _) (par_bif (par_ret _) ((laws_toTxn_p (x.2.2.1, (x.2.2.2.1, (x.2.2.2.2.1, (x.2.2.2.2.2.1, (x.2.2.2.2.2.2.1, (x.2.2.2.2.2.2.2.1, (x.2.2.2.2.2.2.2.2.1, x.2.2.2.2.2.2.2.2.2.1)))))))).bind fun y23 => ((laws_toVersionS_p x.1).bind fun y24 => ((laws_toRange_p (x.2.2.2.2.2.2.2.2.2.2.1, x.2.2.2.2.2.2.2.2.2.2.2.1)).bind fun y25 => ((impl_OwnScan_p (y23.1, (y23.2.1, (y23.2.2.1, (y23.2.2.2.1, (y23.2.2.2.2.2.2.1, (y23.2.2.2.2.2.2.2, (y23.2.2.2.2.1, y23.2.2.2.2.2.1))))))) y24 y25).bind fun y26 => ((laws_eqPairS_p y26 x.2.2.2.2.2.2.2.2.2.2.2.2.1).bind fun y27 => (par_bif (par_ret _) ((laws_heldPairS_p y21.2 (1 : Int)).bind fun y28 => (par_bif (par_ret _) (par_bif (par_ret _) (par_ret _))))))))))))))

def laws_FnExactOwnScan_d (a0 : dTxn) (a1 : (List dVersion)) (a2 : dRange) (k : Bool → Option Res) : Option Res :=
  laws_szTxn_k a0 (1048576 : Int) (fun y1 =>
    bif (decide (y1 < (0 : Int))) then
      k true
    else
      laws_szVersionS_k a1 y1 (fun y2 =>
        bif (decide (y2 < (0 : Int))) then
          k true
        else
          laws_szRange_k a2 y2 (fun y3 =>
            bif (decide (y3 < (0 : Int))) then
              k true
            else
              laws_toTxn_k a0 (fun y4 =>
                laws_toVersionS_k a1 (fun y5 =>
                  laws_toRange_k a2 (fun y6 =>
                    spec_OwnScan_k (y4.1, (y4.2.1, (y4.2.2.1, (y4.2.2.2.1, (y4.2.2.2.2.2.2.1, (y4.2.2.2.2.2.2.2, (y4.2.2.2.2.1, y4.2.2.2.2.2.1))))))) y5 y6 (fun y7 =>
                      laws_toTxn_k a0 (fun y8 =>
                        laws_toVersionS_k a1 (fun y9 =>
                          laws_toRange_k a2 (fun y10 =>
                            impl_OwnScan_k (y8.1, (y8.2.1, (y8.2.2.1, (y8.2.2.2.1, (y8.2.2.2.2.2.2.1, (y8.2.2.2.2.2.2.2, (y8.2.2.2.2.1, y8.2.2.2.2.2.1))))))) y9 y10 (fun y11 =>
                              laws_eqPairS_k y11 y7 (fun y12 =>
                                bif (!y12) then
                                  k false
                                else
                                  laws_toTxn_k a0 (fun y13 =>
                                    laws_eqTxn_k (y8.1, (y8.2.1, (y8.2.2.1, (y8.2.2.2.1, (y8.2.2.2.2.2.2.1, (y8.2.2.2.2.2.2.2, (y8.2.2.2.2.1, y8.2.2.2.2.2.1))))))) (y13.1, (y13.2.1, (y13.2.2.1, (y13.2.2.2.1, (y13.2.2.2.2.2.2.1, (y13.2.2.2.2.2.2.2, (y13.2.2.2.2.1, y13.2.2.2.2.2.1))))))) (fun y14 =>
                                      bif (!y14) then
                                        k false
                                      else
                                        laws_toVersionS_k a1 (fun y15 =>
                                          laws_eqVersionS_k y9 y15 (fun y16 =>
                                            bif (!y16) then
                                              k false
                                            else
                                              laws_markTxn_va_k y8.1 y8.2.1 y8.2.2.1 y8.2.2.2.1 y8.2.2.2.2.1 y8.2.2.2.2.2.1 (1 : Int) y8.2.2.2.2.2.2.1 y8.2.2.2.2.2.2.2 (fun y17 =>
                                                laws_markVersionS_vo_k y17.1 y9 (fun y18 =>
                                                  bif (decide (y18.1 < (0 : Int))) then
                                                    k false
                                                  else
                                                    laws_eqPairS_k y11 y7 (fun y19 =>
                                                      bif (!y19) then
                                                        k false
                                                      else
                                                        laws_FnExactOwnScan_j5000026 (a1, false, a0.1, a0.2.1, a0.2.2.1, a0.2.2.2.1, a0.2.2.2.2.1, a0.2.2.2.2.2.1, a0.2.2.2.2.2.2.1, a0.2.2.2.2.2.2.2, a2.1, a2.2, y7, y11) (fun z20 =>
                                                          k z20.2.1))))))))))))))))))))

theorem laws_FnExactOwnScan_h : ∃ g : dTxn → (List dVersion) → dRange → (Bool → Option Res) → Option Res, g = laws_FnExactOwnScan_d := ⟨_, rfl⟩
def laws_FnExactOwnScan_k : dTxn → (List dVersion) → dRange → (Bool → Option Res) → Option Res := Classical.choose laws_FnExactOwnScan_h
theorem laws_FnExactOwnScan_e : laws_FnExactOwnScan_k = laws_FnExactOwnScan_d := Classical.choose_spec laws_FnExactOwnScan_h

theorem laws_FnExactOwnScan_p (a0 : dTxn) (a1 : (List dVersion)) (a2 : dRange) : Par (laws_FnExactOwnScan_k a0 a1 a2) := by
  rw [laws_FnExactOwnScan_e]
  unfold laws_FnExactOwnScan_d
  exact ((laws_szTxn_p a0 (1048576 : Int)).bind fun y1 => (par_bif (par_ret _) ((laws_szVersionS_p a1 y1).bind fun y2 => (par_bif (par_ret _) ((laws_szRange_p a2 y2).bind fun y3 => (par_bif (par_ret _) ((laws_toTxn_p a0).bind fun y4 => ((laws_toVersionS_p a1).bind fun y5 => ((laws_toRange_p a2).bind fun y6 => ((spec_OwnScan_p (y4.1, (y4.2.1, (y4.2.2.1, (y4.2.2.2.1, (y4.2.2.2.2.2.2.1, (y4.2.2.2.2.2.2.2, (y4.2.2.2.2.1, y4.2.2.2.2.2.1))))))) y5 y6).bind fun y7 => ((laws_toTxn_p a0).bind fun y8 => ((laws_toVersionS_p a1).bind fun y9 => ((laws_toRange_p a2).bind fun y10 => ((impl_OwnScan_p (y8.1, (y8.2.1, (y8.2.2.1, (y8.2.2.2.1, (y8.2.2.2.2.2.2.1, (y8.2.2.2.2.2.2.2, (y8.2.2.2.2.1, y8.2.2.2.2.2.1))))))) y9 y10).bind fun y11 => ((laws_eqPairS_p y11 y7).bind fun y12 => (par_bif (par_ret _) ((laws_toTxn_p a0).bind fun y13 => ((laws_eqTxn_p (y8.1, (y8.2.1, (y8.2.2.1, (y8.2.2.2.1, (y8.2.2.2.2.2.2.1, (y8.2.2.2.2.2.2.2, (y8.2.2.2.2.1, y8.2.2.2.2.2.1))))))) (y13.1, (y13.2.1, (y13.2.2.1, (y13.2.2.2.1, (y13.2.2.2.2.2.2.1, (y13.2.2.2.2.2.2.2, (y13.2.2.2.2.1, y13.2.2.2.2.2.1)))))))).bind fun y14 => (par_bif (par_ret _) ((laws_toVersionS_p a1).bind fun y15 => ((laws_eqVersionS_p y9 y15).bind fun y16 => (par_bif (par_ret _) ((laws_markTxn_va_p y8.1 y8.2.1 y8.2.2.1 y8.2.2.2.1 y8.2.2.2.2.1 y8.2.2.2.2.2.1 (1 : Int) y8.2.2.2.2.2.2.1 y8.2.2.2.2.2.2.2).bind fun y17 => ((laws_markVersionS_vo_p y17.1 y9).bind fun y18 => (par_bif (par_ret _) ((laws_eqPairS_p y11 y7).bind fun y19 => (par_bif (par_ret _) ((laws_FnExactOwnScan_jp5000026 (a1, false, a0.1, a0.2.1, a0.2.2.1, a0.2.2.2.1, a0.2.2.2.2.1, a0.2.2.2.2.2.1, a0.2.2.2.2.2.2.1, a0.2.2.2.2.2.2.2, a2.1, a2.2, y7, y11)).bind fun z20 => (par_ret _)))))))))))))))))))))))))))))

def laws_szRange_g (args : List AV) (st : St) (k : K1) : Option Res :=
  onPats [.agg [.str, .str], .int .i64] [] args st (fun p q => laws_szRange_k (p.1.1, p.1.2.1) p.2.1 (fun (y : Int) => k (.int .i64 y) []))
    (none)

theorem laws_szRange_q (a0 : ByteArray) (a1 : ByteArray) (a2 : Int) : Par (fun k : AV × St → Option Res => laws_szRange_g [.agg [.str a0, .str a1], .int .i64 a2] [] (fun v s => k (v, s))) :=
  (laws_szRange_p (a0, a1) a2).bind (H := fun (y : Int) (k : AV × St → Option Res) => (fun (y : Int) => k ((.int .i64 y : AV), ([] : St))) y) (fun y => par_ret _)

def laws_szRangeS_g (args : List AV) (st : St) (k : K1) : Option Res :=
  onPats [.lst tRange, .int .i64] [] args st (fun p q => laws_szRangeS_k p.1 p.2.1 (fun (y : Int) => k (.int .i64 y) []))
    (none)

theorem laws_szRangeS_q (a0 : (List dRange)) (a1 : Int) : Par (fun k : AV × St → Option Res => laws_szRangeS_g [.lst tRange a0, .int .i64 a1] [] (fun v s => k (v, s))) :=
  (laws_szRangeS_p a0 a1).bind (H := fun (y : Int) (k : AV × St → Option Res) => (fun (y : Int) => k ((.int .i64 y : AV), ([] : St))) y) (fun y => par_ret _)

def laws_szWrite_g (args : List AV) (st : St) (k : K1) : Option Res :=
  onPats [.agg [.str, .str, .bool], .int .i64] [] args st (fun p q => laws_szWrite_k (p.1.1, (p.1.2.1, p.1.2.2.1)) p.2.1 (fun (y : Int) => k (.int .i64 y) []))
    (none)

theorem laws_szWrite_q (a0 : ByteArray) (a1 : ByteArray) (a2 : Bool) (a3 : Int) : Par (fun k : AV × St → Option Res => laws_szWrite_g [.agg [.str a0, .str a1, .bool a2], .int .i64 a3] [] (fun v s => k (v, s))) :=
  (laws_szWrite_p (a0, (a1, a2)) a3).bind (H := fun (y : Int) (k : AV × St → Option Res) => (fun (y : Int) => k ((.int .i64 y : AV), ([] : St))) y) (fun y => par_ret _)

def laws_szWriteS_g (args : List AV) (st : St) (k : K1) : Option Res :=
  onPats [.lst tWrite, .int .i64] [] args st (fun p q => laws_szWriteS_k p.1 p.2.1 (fun (y : Int) => k (.int .i64 y) []))
    (none)

theorem laws_szWriteS_q (a0 : (List dWrite)) (a1 : Int) : Par (fun k : AV × St → Option Res => laws_szWriteS_g [.lst tWrite a0, .int .i64 a1] [] (fun v s => k (v, s))) :=
  (laws_szWriteS_p a0 a1).bind (H := fun (y : Int) (k : AV × St → Option Res) => (fun (y : Int) => k ((.int .i64 y : AV), ([] : St))) y) (fun y => par_ret _)

def laws_szTxn_g (args : List AV) (st : St) (k : K1) : Option Res :=
  onPats [.agg [.int .i64, .int .i64, .int .i64, .int .i64, .lst tRange, .lst tWrite, .bool, .str], .int .i64] [] args st (fun p q => laws_szTxn_k (p.1.1, (p.1.2.1, (p.1.2.2.1, (p.1.2.2.2.1, (p.1.2.2.2.2.1, (p.1.2.2.2.2.2.1, (p.1.2.2.2.2.2.2.1, p.1.2.2.2.2.2.2.2.1))))))) p.2.1 (fun (y : Int) => k (.int .i64 y) []))
    (none)

theorem laws_szTxn_q (a0 : Int) (a1 : Int) (a2 : Int) (a3 : Int) (a4 : (List dRange)) (a5 : (List dWrite)) (a6 : Bool) (a7 : ByteArray) (a8 : Int) : Par (fun k : AV × St → Option Res => laws_szTxn_g [.agg [.int .i64 a0, .int .i64 a1, .int .i64 a2, .int .i64 a3, .lst tRange a4, .lst tWrite a5, .bool a6, .str a7], .int .i64 a8] [] (fun v s => k (v, s))) :=
  (laws_szTxn_p (a0, (a1, (a2, (a3, (a4, (a5, (a6, a7))))))) a8).bind (H := fun (y : Int) (k : AV × St → Option Res) => (fun (y : Int) => k ((.int .i64 y : AV), ([] : St))) y) (fun y => par_ret _)

def laws_szVersion_g (args : List AV) (st : St) (k : K1) : Option Res :=
  onPats [.agg [.str, .str, .bool, .int .i64], .int .i64] [] args st (fun p q => laws_szVersion_k (p.1.1, (p.1.2.1, (p.1.2.2.1, p.1.2.2.2.1))) p.2.1 (fun (y : Int) => k (.int .i64 y) []))
    (none)

theorem laws_szVersion_q (a0 : ByteArray) (a1 : ByteArray) (a2 : Bool) (a3 : Int) (a4 : Int) : Par (fun k : AV × St → Option Res => laws_szVersion_g [.agg [.str a0, .str a1, .bool a2, .int .i64 a3], .int .i64 a4] [] (fun v s => k (v, s))) :=
  (laws_szVersion_p (a0, (a1, (a2, a3))) a4).bind (H := fun (y : Int) (k : AV × St → Option Res) => (fun (y : Int) => k ((.int .i64 y : AV), ([] : St))) y) (fun y => par_ret _)

def laws_szVersionS_g (args : List AV) (st : St) (k : K1) : Option Res :=
  onPats [.lst tVersion, .int .i64] [] args st (fun p q => laws_szVersionS_k p.1 p.2.1 (fun (y : Int) => k (.int .i64 y) []))
    (none)

theorem laws_szVersionS_q (a0 : (List dVersion)) (a1 : Int) : Par (fun k : AV × St → Option Res => laws_szVersionS_g [.lst tVersion a0, .int .i64 a1] [] (fun v s => k (v, s))) :=
  (laws_szVersionS_p a0 a1).bind (H := fun (y : Int) (k : AV × St → Option Res) => (fun (y : Int) => k ((.int .i64 y : AV), ([] : St))) y) (fun y => par_ret _)

def laws_toRange_g (args : List AV) (st : St) (k : K1) : Option Res :=
  onPats [.agg [.str, .str]] [] args st (fun p q => laws_toRange_k (p.1.1, p.1.2.1) (fun (y : (ByteArray × ByteArray)) => k (.agg [.str y.1, .str y.2]) []))
    (none)

theorem laws_toRange_q (a0 : ByteArray) (a1 : ByteArray) : Par (fun k : AV × St → Option Res => laws_toRange_g [.agg [.str a0, .str a1]] [] (fun v s => k (v, s))) :=
  (laws_toRange_p (a0, a1)).bind (H := fun (y : (ByteArray × ByteArray)) (k : AV × St → Option Res) => (fun (y : (ByteArray × ByteArray)) => k ((.agg [.str y.1, .str y.2] : AV), ([] : St))) y) (fun y => par_ret _)

def laws_toRangeS_g (args : List AV) (st : St) (k : K1) : Option Res :=
  onPats [.lst tRange] [] args st (fun p q => laws_toRangeS_k p.1 (fun (y : (List dRange)) => k (.own 0) [.arr tRange y]))
    (none)

theorem laws_toRangeS_q (a0 : (List dRange)) : Par (fun k : AV × St → Option Res => laws_toRangeS_g [.lst tRange a0] [] (fun v s => k (v, s))) :=
  (laws_toRangeS_p a0).bind (H := fun (y : (List dRange)) (k : AV × St → Option Res) => (fun (y : (List dRange)) => k ((.own 0 : AV), ([.arr tRange y] : St))) y) (fun y => par_ret _)

def laws_toWrite_g (args : List AV) (st : St) (k : K1) : Option Res :=
  onPats [.agg [.str, .str, .bool]] [] args st (fun p q => laws_toWrite_k (p.1.1, (p.1.2.1, p.1.2.2.1)) (fun (y : (ByteArray × ByteArray × Bool)) => k (.agg [.str y.1, .str y.2.1, .bool y.2.2]) []))
    (none)

theorem laws_toWrite_q (a0 : ByteArray) (a1 : ByteArray) (a2 : Bool) : Par (fun k : AV × St → Option Res => laws_toWrite_g [.agg [.str a0, .str a1, .bool a2]] [] (fun v s => k (v, s))) :=
  (laws_toWrite_p (a0, (a1, a2))).bind (H := fun (y : (ByteArray × ByteArray × Bool)) (k : AV × St → Option Res) => (fun (y : (ByteArray × ByteArray × Bool)) => k ((.agg [.str y.1, .str y.2.1, .bool y.2.2] : AV), ([] : St))) y) (fun y => par_ret _)

def laws_toWriteS_g (args : List AV) (st : St) (k : K1) : Option Res :=
  onPats [.lst tWrite] [] args st (fun p q => laws_toWriteS_k p.1 (fun (y : (List dWrite)) => k (.own 0) [.arr tWrite y]))
    (none)

theorem laws_toWriteS_q (a0 : (List dWrite)) : Par (fun k : AV × St → Option Res => laws_toWriteS_g [.lst tWrite a0] [] (fun v s => k (v, s))) :=
  (laws_toWriteS_p a0).bind (H := fun (y : (List dWrite)) (k : AV × St → Option Res) => (fun (y : (List dWrite)) => k ((.own 0 : AV), ([.arr tWrite y] : St))) y) (fun y => par_ret _)

def laws_toTxn_g (args : List AV) (st : St) (k : K1) : Option Res :=
  onPats [.agg [.int .i64, .int .i64, .int .i64, .int .i64, .lst tRange, .lst tWrite, .bool, .str]] [] args st (fun p q => laws_toTxn_k (p.1.1, (p.1.2.1, (p.1.2.2.1, (p.1.2.2.2.1, (p.1.2.2.2.2.1, (p.1.2.2.2.2.2.1, (p.1.2.2.2.2.2.2.1, p.1.2.2.2.2.2.2.2.1))))))) (fun (y : (Int × Int × Int × Int × Bool × ByteArray × (List dRange) × (List dWrite))) => k (.agg [.int .i64 y.1, .int .i64 y.2.1, .int .i64 y.2.2.1, .int .i64 y.2.2.2.1, .own 0, .own 1, .bool y.2.2.2.2.1, .str y.2.2.2.2.2.1]) [.arr tRange y.2.2.2.2.2.2.1, .arr tWrite y.2.2.2.2.2.2.2]))
    (none)

theorem laws_toTxn_q (a0 : Int) (a1 : Int) (a2 : Int) (a3 : Int) (a4 : (List dRange)) (a5 : (List dWrite)) (a6 : Bool) (a7 : ByteArray) : Par (fun k : AV × St → Option Res => laws_toTxn_g [.agg [.int .i64 a0, .int .i64 a1, .int .i64 a2, .int .i64 a3, .lst tRange a4, .lst tWrite a5, .bool a6, .str a7]] [] (fun v s => k (v, s))) :=
  (laws_toTxn_p (a0, (a1, (a2, (a3, (a4, (a5, (a6, a7)))))))).bind (H := fun (y : (Int × Int × Int × Int × Bool × ByteArray × (List dRange) × (List dWrite))) (k : AV × St → Option Res) => (fun (y : (Int × Int × Int × Int × Bool × ByteArray × (List dRange) × (List dWrite))) => k ((.agg [.int .i64 y.1, .int .i64 y.2.1, .int .i64 y.2.2.1, .int .i64 y.2.2.2.1, .own 0, .own 1, .bool y.2.2.2.2.1, .str y.2.2.2.2.2.1] : AV), ([.arr tRange y.2.2.2.2.2.2.1, .arr tWrite y.2.2.2.2.2.2.2] : St))) y) (fun y => par_ret _)

def laws_toVersion_g (args : List AV) (st : St) (k : K1) : Option Res :=
  onPats [.agg [.str, .str, .bool, .int .i64]] [] args st (fun p q => laws_toVersion_k (p.1.1, (p.1.2.1, (p.1.2.2.1, p.1.2.2.2.1))) (fun (y : (ByteArray × ByteArray × Bool × Int)) => k (.agg [.str y.1, .str y.2.1, .bool y.2.2.1, .int .i64 y.2.2.2]) []))
    (none)

theorem laws_toVersion_q (a0 : ByteArray) (a1 : ByteArray) (a2 : Bool) (a3 : Int) : Par (fun k : AV × St → Option Res => laws_toVersion_g [.agg [.str a0, .str a1, .bool a2, .int .i64 a3]] [] (fun v s => k (v, s))) :=
  (laws_toVersion_p (a0, (a1, (a2, a3)))).bind (H := fun (y : (ByteArray × ByteArray × Bool × Int)) (k : AV × St → Option Res) => (fun (y : (ByteArray × ByteArray × Bool × Int)) => k ((.agg [.str y.1, .str y.2.1, .bool y.2.2.1, .int .i64 y.2.2.2] : AV), ([] : St))) y) (fun y => par_ret _)

def laws_toVersionS_g (args : List AV) (st : St) (k : K1) : Option Res :=
  onPats [.lst tVersion] [] args st (fun p q => laws_toVersionS_k p.1 (fun (y : (List dVersion)) => k (.own 0) [.arr tVersion y]))
    (none)

theorem laws_toVersionS_q (a0 : (List dVersion)) : Par (fun k : AV × St → Option Res => laws_toVersionS_g [.lst tVersion a0] [] (fun v s => k (v, s))) :=
  (laws_toVersionS_p a0).bind (H := fun (y : (List dVersion)) (k : AV × St → Option Res) => (fun (y : (List dVersion)) => k ((.own 0 : AV), ([.arr tVersion y] : St))) y) (fun y => par_ret _)

def spec_InRange_g (args : List AV) (st : St) (k : K1) : Option Res :=
  onPats [.agg [.str, .str], .str] [] args st (fun p q => spec_InRange_k (p.1.1, p.1.2.1) p.2.1 (fun (y : Bool) => k (.bool y) []))
    (none)

theorem spec_InRange_q (a0 : ByteArray) (a1 : ByteArray) (a2 : ByteArray) : Par (fun k : AV × St → Option Res => spec_InRange_g [.agg [.str a0, .str a1], .str a2] [] (fun v s => k (v, s))) :=
  (spec_InRange_p (a0, a1) a2).bind (H := fun (y : Bool) (k : AV × St → Option Res) => (fun (y : Bool) => k ((.bool y : AV), ([] : St))) y) (fun y => par_ret _)

def spec_l06Keys_g (args : List AV) (st : St) (k : K1) : Option Res :=
  onPats [.lst tVersion, .agg [.str, .str]] [] args st (fun p q => spec_l06Keys_k p.1 (p.2.1.1, p.2.1.2.1) (fun (y : (List ByteArray)) => k (.own 0) [.arr .str y]))
    (none)

theorem spec_l06Keys_q (a0 : (List dVersion)) (a1 : ByteArray) (a2 : ByteArray) : Par (fun k : AV × St → Option Res => spec_l06Keys_g [.lst tVersion a0, .agg [.str a1, .str a2]] [] (fun v s => k (v, s))) :=
  (spec_l06Keys_p a0 (a1, a2)).bind (H := fun (y : (List ByteArray)) (k : AV × St → Option Res) => (fun (y : (List ByteArray)) => k ((.own 0 : AV), ([.arr .str y] : St))) y) (fun y => par_ret _)

def spec_l06At_g (args : List AV) (st : St) (k : K1) : Option Res :=
  onPats [.lst tVersion, .str, .int .i64] [] args st (fun p q => spec_l06At_k p.1 p.2.1 p.2.2.1 (fun (y : Int) => k (.int .i64 y) []))
    (none)

theorem spec_l06At_q (a0 : (List dVersion)) (a1 : ByteArray) (a2 : Int) : Par (fun k : AV × St → Option Res => spec_l06At_g [.lst tVersion a0, .str a1, .int .i64 a2] [] (fun v s => k (v, s))) :=
  (spec_l06At_p a0 a1 a2).bind (H := fun (y : Int) (k : AV × St → Option Res) => (fun (y : Int) => k ((.int .i64 y : AV), ([] : St))) y) (fun y => par_ret _)

def spec_SeenAt_g (args : List AV) (st : St) (k : K1) : Option Res :=
  onPats [.lst tVersion, .str, .int .i64] [] args st (fun p q => spec_SeenAt_k p.1 p.2.1 p.2.2.1 (fun (y : (ByteArray × Bool)) => k (.tup [.str y.1, .bool y.2]) []))
    (none)

theorem spec_SeenAt_q (a0 : (List dVersion)) (a1 : ByteArray) (a2 : Int) : Par (fun k : AV × St → Option Res => spec_SeenAt_g [.lst tVersion a0, .str a1, .int .i64 a2] [] (fun v s => k (v, s))) :=
  (spec_SeenAt_p a0 a1 a2).bind (H := fun (y : (ByteArray × Bool)) (k : AV × St → Option Res) => (fun (y : (ByteArray × Bool)) => k ((.tup [.str y.1, .bool y.2] : AV), ([] : St))) y) (fun y => par_ret _)

def spec_OwnGet_g (args : List AV) (st : St) (k : K1) : Option Res :=
  onPats [.agg [.int .i64, .int .i64, .int .i64, .int .i64, .lst tRange, .lst tWrite, .bool, .str], .lst tVersion, .str] [] args st (fun p q => spec_OwnGet_k (p.1.1, (p.1.2.1, (p.1.2.2.1, (p.1.2.2.2.1, (p.1.2.2.2.2.1, (p.1.2.2.2.2.2.1, (p.1.2.2.2.2.2.2.1, p.1.2.2.2.2.2.2.2.1))))))) p.2.1 p.2.2.1 (fun (y : (ByteArray × Bool)) => k (.tup [.str y.1, .bool y.2]) []))
    (none)

theorem spec_OwnGet_q (a0 : Int) (a1 : Int) (a2 : Int) (a3 : Int) (a4 : (List dRange)) (a5 : (List dWrite)) (a6 : Bool) (a7 : ByteArray) (a8 : (List dVersion)) (a9 : ByteArray) : Par (fun k : AV × St → Option Res => spec_OwnGet_g [.agg [.int .i64 a0, .int .i64 a1, .int .i64 a2, .int .i64 a3, .lst tRange a4, .lst tWrite a5, .bool a6, .str a7], .lst tVersion a8, .str a9] [] (fun v s => k (v, s))) :=
  (spec_OwnGet_p (a0, (a1, (a2, (a3, (a4, (a5, (a6, a7))))))) a8 a9).bind (H := fun (y : (ByteArray × Bool)) (k : AV × St → Option Res) => (fun (y : (ByteArray × Bool)) => k ((.tup [.str y.1, .bool y.2] : AV), ([] : St))) y) (fun y => par_ret _)

def spec_OwnScan_g (args : List AV) (st : St) (k : K1) : Option Res :=
  onPats [.agg [.int .i64, .int .i64, .int .i64, .int .i64, .lst tRange, .lst tWrite, .bool, .str], .lst tVersion, .agg [.str, .str]] [] args st (fun p q => spec_OwnScan_k (p.1.1, (p.1.2.1, (p.1.2.2.1, (p.1.2.2.2.1, (p.1.2.2.2.2.1, (p.1.2.2.2.2.2.1, (p.1.2.2.2.2.2.2.1, p.1.2.2.2.2.2.2.2.1))))))) p.2.1 (p.2.2.1.1, p.2.2.1.2.1) (fun (y : (List dRange)) => k (.own 0) [.arr tRange y]))
    (none)

theorem spec_OwnScan_q (a0 : Int) (a1 : Int) (a2 : Int) (a3 : Int) (a4 : (List dRange)) (a5 : (List dWrite)) (a6 : Bool) (a7 : ByteArray) (a8 : (List dVersion)) (a9 : ByteArray) (a10 : ByteArray) : Par (fun k : AV × St → Option Res => spec_OwnScan_g [.agg [.int .i64 a0, .int .i64 a1, .int .i64 a2, .int .i64 a3, .lst tRange a4, .lst tWrite a5, .bool a6, .str a7], .lst tVersion a8, .agg [.str a9, .str a10]] [] (fun v s => k (v, s))) :=
  (spec_OwnScan_p (a0, (a1, (a2, (a3, (a4, (a5, (a6, a7))))))) a8 (a9, a10)).bind (H := fun (y : (List dRange)) (k : AV × St → Option Res) => (fun (y : (List dRange)) => k ((.own 0 : AV), ([.arr tRange y] : St))) y) (fun y => par_ret _)

def slices_Sort_string_g (args : List AV) (st : St) (k : K1) : Option Res :=
  onPats [.own 0] [.arr .str] args st (fun p q => slices_Sort_string_vo_k q.1 (fun (y : (List ByteArray)) => k (.tup []) [.arr .str y]))
    (none)

theorem slices_Sort_string_vo_q (a0 : (List ByteArray)) : Par (fun k : AV × St → Option Res => slices_Sort_string_g [.own 0] [.arr .str a0] (fun v s => k (v, s))) :=
  (slices_Sort_string_vo_p a0).bind (H := fun (y : (List ByteArray)) (k : AV × St → Option Res) => (fun (y : (List ByteArray)) => k ((.tup [] : AV), ([.arr .str y] : St))) y) (fun y => par_ret _)

def slices_Compact_string_g (args : List AV) (st : St) (k : K1) : Option Res :=
  onPats [.own 0] [.arr .str] args st (fun p q => slices_Compact_string_vo_k q.1 (Sum.elim (fun (y : (List ByteArray)) => k (.own 0) [.arr .str y]) (fun (y : (List ByteArray)) => k (.own 1) [.gone, .arr .str y])))
    (none)

theorem slices_Compact_string_vo_q (a0 : (List ByteArray)) : Par (fun k : AV × St → Option Res => slices_Compact_string_g [.own 0] [.arr .str a0] (fun v s => k (v, s))) :=
  (slices_Compact_string_vo_p a0).bind (H := fun (y : ((List ByteArray) ⊕ (List ByteArray))) (k : AV × St → Option Res) => (Sum.elim (fun (y : (List ByteArray)) => k ((.own 0 : AV), ([.arr .str y] : St))) (fun (y : (List ByteArray)) => k ((.own 1 : AV), ([.gone, .arr .str y] : St)))) y) (fun y => by rcases y with y | y <;> exact par_ret _)

def impl_keysOf_g (args : List AV) (st : St) (k : K1) : Option Res :=
  onPats [.lst tVersion] [] args st (fun p q => impl_keysOf_k p.1 (fun (y : (List ByteArray)) => k (.own 0) [.arr .str y]))
    (none)

theorem impl_keysOf_q (a0 : (List dVersion)) : Par (fun k : AV × St → Option Res => impl_keysOf_g [.lst tVersion a0] [] (fun v s => k (v, s))) :=
  (impl_keysOf_p a0).bind (H := fun (y : (List ByteArray)) (k : AV × St → Option Res) => (fun (y : (List ByteArray)) => k ((.own 0 : AV), ([.arr .str y] : St))) y) (fun y => par_ret _)

def impl_ownAt_1_g (args : List AV) (st : St) (k : K1) : Option Res :=
  onPats [.agg [.str, .str, .bool], .bp 0 0] [.box [.str]] args st (fun p q => impl_ownAt_1_k (p.1.1, (p.1.2.1, p.1.2.2.1)) q.1.1 (fun (y : (Bool × ByteArray)) => k (.bool y.1) [.box [.str y.2]]))
    (none)

theorem impl_ownAt_1_q (a0 : ByteArray) (a1 : ByteArray) (a2 : Bool) (a3 : ByteArray) : Par (fun k : AV × St → Option Res => impl_ownAt_1_g [.agg [.str a0, .str a1, .bool a2], .bp 0 0] [.box [.str a3]] (fun v s => k (v, s))) :=
  (impl_ownAt_1_p (a0, (a1, a2)) a3).bind (H := fun (y : (Bool × ByteArray)) (k : AV × St → Option Res) => (fun (y : (Bool × ByteArray)) => k ((.bool y.1 : AV), ([.box [.str y.2]] : St))) y) (fun y => par_ret _)

def slices_IndexFunc_Write_g (args : List AV) (st : St) (k : K1) : Option Res :=
  onPats [.lst tWrite, .fn 184 [.bp 0 0]] [.box [.str]] args st (fun p q => slices_IndexFunc_Write_ownAt_1_k p.1 q.1.1 (fun (y : (Int × ByteArray)) => k (.int .i64 y.1) [.box [.str y.2]]))
    (none)

theorem slices_IndexFunc_Write_ownAt_1_q (a0 : (List dWrite)) (a1 : ByteArray) : Par (fun k : AV × St → Option Res => slices_IndexFunc_Write_g [.lst tWrite a0, .fn 184 [.bp 0 0]] [.box [.str a1]] (fun v s => k (v, s))) :=
  (slices_IndexFunc_Write_ownAt_1_p a0 a1).bind (H := fun (y : (Int × ByteArray)) (k : AV × St → Option Res) => (fun (y : (Int × ByteArray)) => k ((.int .i64 y.1 : AV), ([.box [.str y.2]] : St))) y) (fun y => par_ret _)

def impl_ownAt_g (args : List AV) (st : St) (k : K1) : Option Res :=
  onPats [.agg [.int .i64, .int .i64, .int .i64, .int .i64, .lst tRange, .lst tWrite, .bool, .str], .str] [] args st (fun p q => impl_ownAt_k (p.1.1, (p.1.2.1, (p.1.2.2.1, (p.1.2.2.2.1, (p.1.2.2.2.2.1, (p.1.2.2.2.2.2.1, (p.1.2.2.2.2.2.2.1, p.1.2.2.2.2.2.2.2.1))))))) p.2.1 (fun (y : Int) => k (.int .i64 y) []))
    (none)

theorem impl_ownAt_q (a0 : Int) (a1 : Int) (a2 : Int) (a3 : Int) (a4 : (List dRange)) (a5 : (List dWrite)) (a6 : Bool) (a7 : ByteArray) (a8 : ByteArray) : Par (fun k : AV × St → Option Res => impl_ownAt_g [.agg [.int .i64 a0, .int .i64 a1, .int .i64 a2, .int .i64 a3, .lst tRange a4, .lst tWrite a5, .bool a6, .str a7], .str a8] [] (fun v s => k (v, s))) :=
  (impl_ownAt_p (a0, (a1, (a2, (a3, (a4, (a5, (a6, a7))))))) a8).bind (H := fun (y : Int) (k : AV × St → Option Res) => (fun (y : Int) => k ((.int .i64 y : AV), ([] : St))) y) (fun y => par_ret _)

def impl_lastAt_g (args : List AV) (st : St) (k : K1) : Option Res :=
  onPats [.lst tVersion, .str, .int .i64] [] args st (fun p q => impl_lastAt_k p.1 p.2.1 p.2.2.1 (fun (y : Int) => k (.int .i64 y) []))
    (none)

theorem impl_lastAt_q (a0 : (List dVersion)) (a1 : ByteArray) (a2 : Int) : Par (fun k : AV × St → Option Res => impl_lastAt_g [.lst tVersion a0, .str a1, .int .i64 a2] [] (fun v s => k (v, s))) :=
  (impl_lastAt_p a0 a1 a2).bind (H := fun (y : Int) (k : AV × St → Option Res) => (fun (y : Int) => k ((.int .i64 y : AV), ([] : St))) y) (fun y => par_ret _)

def impl_SeenAt_g (args : List AV) (st : St) (k : K1) : Option Res :=
  onPats [.lst tVersion, .str, .int .i64] [] args st (fun p q => impl_SeenAt_k p.1 p.2.1 p.2.2.1 (fun (y : (ByteArray × Bool)) => k (.tup [.str y.1, .bool y.2]) []))
    (none)

theorem impl_SeenAt_q (a0 : (List dVersion)) (a1 : ByteArray) (a2 : Int) : Par (fun k : AV × St → Option Res => impl_SeenAt_g [.lst tVersion a0, .str a1, .int .i64 a2] [] (fun v s => k (v, s))) :=
  (impl_SeenAt_p a0 a1 a2).bind (H := fun (y : (ByteArray × Bool)) (k : AV × St → Option Res) => (fun (y : (ByteArray × Bool)) => k ((.tup [.str y.1, .bool y.2] : AV), ([] : St))) y) (fun y => par_ret _)

def impl_OwnGet_g (args : List AV) (st : St) (k : K1) : Option Res :=
  onPats [.agg [.int .i64, .int .i64, .int .i64, .int .i64, .lst tRange, .lst tWrite, .bool, .str], .lst tVersion, .str] [] args st (fun p q => impl_OwnGet_k (p.1.1, (p.1.2.1, (p.1.2.2.1, (p.1.2.2.2.1, (p.1.2.2.2.2.1, (p.1.2.2.2.2.2.1, (p.1.2.2.2.2.2.2.1, p.1.2.2.2.2.2.2.2.1))))))) p.2.1 p.2.2.1 (fun (y : (ByteArray × Bool)) => k (.tup [.str y.1, .bool y.2]) []))
    (none)

theorem impl_OwnGet_q (a0 : Int) (a1 : Int) (a2 : Int) (a3 : Int) (a4 : (List dRange)) (a5 : (List dWrite)) (a6 : Bool) (a7 : ByteArray) (a8 : (List dVersion)) (a9 : ByteArray) : Par (fun k : AV × St → Option Res => impl_OwnGet_g [.agg [.int .i64 a0, .int .i64 a1, .int .i64 a2, .int .i64 a3, .lst tRange a4, .lst tWrite a5, .bool a6, .str a7], .lst tVersion a8, .str a9] [] (fun v s => k (v, s))) :=
  (impl_OwnGet_p (a0, (a1, (a2, (a3, (a4, (a5, (a6, a7))))))) a8 a9).bind (H := fun (y : (ByteArray × Bool)) (k : AV × St → Option Res) => (fun (y : (ByteArray × Bool)) => k ((.tup [.str y.1, .bool y.2] : AV), ([] : St))) y) (fun y => par_ret _)

def impl_InRange_g (args : List AV) (st : St) (k : K1) : Option Res :=
  onPats [.agg [.str, .str], .str] [] args st (fun p q => impl_InRange_k (p.1.1, p.1.2.1) p.2.1 (fun (y : Bool) => k (.bool y) []))
    (none)

theorem impl_InRange_q (a0 : ByteArray) (a1 : ByteArray) (a2 : ByteArray) : Par (fun k : AV × St → Option Res => impl_InRange_g [.agg [.str a0, .str a1], .str a2] [] (fun v s => k (v, s))) :=
  (impl_InRange_p (a0, a1) a2).bind (H := fun (y : Bool) (k : AV × St → Option Res) => (fun (y : Bool) => k ((.bool y : AV), ([] : St))) y) (fun y => par_ret _)

def impl_OwnScan_g (args : List AV) (st : St) (k : K1) : Option Res :=
  onPats [.agg [.int .i64, .int .i64, .int .i64, .int .i64, .lst tRange, .lst tWrite, .bool, .str], .lst tVersion, .agg [.str, .str]] [] args st (fun p q => impl_OwnScan_k (p.1.1, (p.1.2.1, (p.1.2.2.1, (p.1.2.2.2.1, (p.1.2.2.2.2.1, (p.1.2.2.2.2.2.1, (p.1.2.2.2.2.2.2.1, p.1.2.2.2.2.2.2.2.1))))))) p.2.1 (p.2.2.1.1, p.2.2.1.2.1) (fun (y : (List dRange)) => k (.own 0) [.arr tRange y]))
    (none)

theorem impl_OwnScan_q (a0 : Int) (a1 : Int) (a2 : Int) (a3 : Int) (a4 : (List dRange)) (a5 : (List dWrite)) (a6 : Bool) (a7 : ByteArray) (a8 : (List dVersion)) (a9 : ByteArray) (a10 : ByteArray) : Par (fun k : AV × St → Option Res => impl_OwnScan_g [.agg [.int .i64 a0, .int .i64 a1, .int .i64 a2, .int .i64 a3, .lst tRange a4, .lst tWrite a5, .bool a6, .str a7], .lst tVersion a8, .agg [.str a9, .str a10]] [] (fun v s => k (v, s))) :=
  (impl_OwnScan_p (a0, (a1, (a2, (a3, (a4, (a5, (a6, a7))))))) a8 (a9, a10)).bind (H := fun (y : (List dRange)) (k : AV × St → Option Res) => (fun (y : (List dRange)) => k ((.own 0 : AV), ([.arr tRange y] : St))) y) (fun y => par_ret _)

def laws_eqPair_g (args : List AV) (st : St) (k : K1) : Option Res :=
  onPats [.agg [.str, .str], .agg [.str, .str]] [] args st (fun p q => laws_eqPair_k (p.1.1, p.1.2.1) (p.2.1.1, p.2.1.2.1) (fun (y : Bool) => k (.bool y) []))
    (none)

theorem laws_eqPair_q (a0 : ByteArray) (a1 : ByteArray) (a2 : ByteArray) (a3 : ByteArray) : Par (fun k : AV × St → Option Res => laws_eqPair_g [.agg [.str a0, .str a1], .agg [.str a2, .str a3]] [] (fun v s => k (v, s))) :=
  (laws_eqPair_p (a0, a1) (a2, a3)).bind (H := fun (y : Bool) (k : AV × St → Option Res) => (fun (y : Bool) => k ((.bool y : AV), ([] : St))) y) (fun y => par_ret _)

def laws_eqPairS_g (args : List AV) (st : St) (k : K1) : Option Res :=
  onPats [.lst tRange, .lst tRange] [] args st (fun p q => laws_eqPairS_k p.1 p.2.1 (fun (y : Bool) => k (.bool y) []))
    (none)

theorem laws_eqPairS_q (a0 : (List dRange)) (a1 : (List dRange)) : Par (fun k : AV × St → Option Res => laws_eqPairS_g [.lst tRange a0, .lst tRange a1] [] (fun v s => k (v, s))) :=
  (laws_eqPairS_p a0 a1).bind (H := fun (y : Bool) (k : AV × St → Option Res) => (fun (y : Bool) => k ((.bool y : AV), ([] : St))) y) (fun y => par_ret _)

def laws_eqRange_g (args : List AV) (st : St) (k : K1) : Option Res :=
  onPats [.agg [.str, .str], .agg [.str, .str]] [] args st (fun p q => laws_eqRange_k (p.1.1, p.1.2.1) (p.2.1.1, p.2.1.2.1) (fun (y : Bool) => k (.bool y) []))
    (none)

theorem laws_eqRange_q (a0 : ByteArray) (a1 : ByteArray) (a2 : ByteArray) (a3 : ByteArray) : Par (fun k : AV × St → Option Res => laws_eqRange_g [.agg [.str a0, .str a1], .agg [.str a2, .str a3]] [] (fun v s => k (v, s))) :=
  (laws_eqRange_p (a0, a1) (a2, a3)).bind (H := fun (y : Bool) (k : AV × St → Option Res) => (fun (y : Bool) => k ((.bool y : AV), ([] : St))) y) (fun y => par_ret _)

def laws_eqRangeS_g (args : List AV) (st : St) (k : K1) : Option Res :=
  onPats [.lst tRange, .lst tRange] [] args st (fun p q => laws_eqRangeS_k p.1 p.2.1 (fun (y : Bool) => k (.bool y) []))
    (none)

theorem laws_eqRangeS_q (a0 : (List dRange)) (a1 : (List dRange)) : Par (fun k : AV × St → Option Res => laws_eqRangeS_g [.lst tRange a0, .lst tRange a1] [] (fun v s => k (v, s))) :=
  (laws_eqRangeS_p a0 a1).bind (H := fun (y : Bool) (k : AV × St → Option Res) => (fun (y : Bool) => k ((.bool y : AV), ([] : St))) y) (fun y => par_ret _)

def laws_eqWrite_g (args : List AV) (st : St) (k : K1) : Option Res :=
  onPats [.agg [.str, .str, .bool], .agg [.str, .str, .bool]] [] args st (fun p q => laws_eqWrite_k (p.1.1, (p.1.2.1, p.1.2.2.1)) (p.2.1.1, (p.2.1.2.1, p.2.1.2.2.1)) (fun (y : Bool) => k (.bool y) []))
    (none)

theorem laws_eqWrite_q (a0 : ByteArray) (a1 : ByteArray) (a2 : Bool) (a3 : ByteArray) (a4 : ByteArray) (a5 : Bool) : Par (fun k : AV × St → Option Res => laws_eqWrite_g [.agg [.str a0, .str a1, .bool a2], .agg [.str a3, .str a4, .bool a5]] [] (fun v s => k (v, s))) :=
  (laws_eqWrite_p (a0, (a1, a2)) (a3, (a4, a5))).bind (H := fun (y : Bool) (k : AV × St → Option Res) => (fun (y : Bool) => k ((.bool y : AV), ([] : St))) y) (fun y => par_ret _)

def laws_eqWriteS_g (args : List AV) (st : St) (k : K1) : Option Res :=
  onPats [.lst tWrite, .lst tWrite] [] args st (fun p q => laws_eqWriteS_k p.1 p.2.1 (fun (y : Bool) => k (.bool y) []))
    (none)

theorem laws_eqWriteS_q (a0 : (List dWrite)) (a1 : (List dWrite)) : Par (fun k : AV × St → Option Res => laws_eqWriteS_g [.lst tWrite a0, .lst tWrite a1] [] (fun v s => k (v, s))) :=
  (laws_eqWriteS_p a0 a1).bind (H := fun (y : Bool) (k : AV × St → Option Res) => (fun (y : Bool) => k ((.bool y : AV), ([] : St))) y) (fun y => par_ret _)

def laws_eqTxn_g (args : List AV) (st : St) (k : K1) : Option Res :=
  onPats [.agg [.int .i64, .int .i64, .int .i64, .int .i64, .lst tRange, .lst tWrite, .bool, .str], .agg [.int .i64, .int .i64, .int .i64, .int .i64, .lst tRange, .lst tWrite, .bool, .str]] [] args st (fun p q => laws_eqTxn_k (p.1.1, (p.1.2.1, (p.1.2.2.1, (p.1.2.2.2.1, (p.1.2.2.2.2.1, (p.1.2.2.2.2.2.1, (p.1.2.2.2.2.2.2.1, p.1.2.2.2.2.2.2.2.1))))))) (p.2.1.1, (p.2.1.2.1, (p.2.1.2.2.1, (p.2.1.2.2.2.1, (p.2.1.2.2.2.2.1, (p.2.1.2.2.2.2.2.1, (p.2.1.2.2.2.2.2.2.1, p.2.1.2.2.2.2.2.2.2.1))))))) (fun (y : Bool) => k (.bool y) []))
    (none)

theorem laws_eqTxn_q (a0 : Int) (a1 : Int) (a2 : Int) (a3 : Int) (a4 : (List dRange)) (a5 : (List dWrite)) (a6 : Bool) (a7 : ByteArray) (a8 : Int) (a9 : Int) (a10 : Int) (a11 : Int) (a12 : (List dRange)) (a13 : (List dWrite)) (a14 : Bool) (a15 : ByteArray) : Par (fun k : AV × St → Option Res => laws_eqTxn_g [.agg [.int .i64 a0, .int .i64 a1, .int .i64 a2, .int .i64 a3, .lst tRange a4, .lst tWrite a5, .bool a6, .str a7], .agg [.int .i64 a8, .int .i64 a9, .int .i64 a10, .int .i64 a11, .lst tRange a12, .lst tWrite a13, .bool a14, .str a15]] [] (fun v s => k (v, s))) :=
  (laws_eqTxn_p (a0, (a1, (a2, (a3, (a4, (a5, (a6, a7))))))) (a8, (a9, (a10, (a11, (a12, (a13, (a14, a15)))))))).bind (H := fun (y : Bool) (k : AV × St → Option Res) => (fun (y : Bool) => k ((.bool y : AV), ([] : St))) y) (fun y => par_ret _)

def laws_eqVersion_g (args : List AV) (st : St) (k : K1) : Option Res :=
  onPats [.agg [.str, .str, .bool, .int .i64], .agg [.str, .str, .bool, .int .i64]] [] args st (fun p q => laws_eqVersion_k (p.1.1, (p.1.2.1, (p.1.2.2.1, p.1.2.2.2.1))) (p.2.1.1, (p.2.1.2.1, (p.2.1.2.2.1, p.2.1.2.2.2.1))) (fun (y : Bool) => k (.bool y) []))
    (none)

theorem laws_eqVersion_q (a0 : ByteArray) (a1 : ByteArray) (a2 : Bool) (a3 : Int) (a4 : ByteArray) (a5 : ByteArray) (a6 : Bool) (a7 : Int) : Par (fun k : AV × St → Option Res => laws_eqVersion_g [.agg [.str a0, .str a1, .bool a2, .int .i64 a3], .agg [.str a4, .str a5, .bool a6, .int .i64 a7]] [] (fun v s => k (v, s))) :=
  (laws_eqVersion_p (a0, (a1, (a2, a3))) (a4, (a5, (a6, a7)))).bind (H := fun (y : Bool) (k : AV × St → Option Res) => (fun (y : Bool) => k ((.bool y : AV), ([] : St))) y) (fun y => par_ret _)

def laws_eqVersionS_g (args : List AV) (st : St) (k : K1) : Option Res :=
  onPats [.lst tVersion, .lst tVersion] [] args st (fun p q => laws_eqVersionS_k p.1 p.2.1 (fun (y : Bool) => k (.bool y) []))
    (none)

theorem laws_eqVersionS_q (a0 : (List dVersion)) (a1 : (List dVersion)) : Par (fun k : AV × St → Option Res => laws_eqVersionS_g [.lst tVersion a0, .lst tVersion a1] [] (fun v s => k (v, s))) :=
  (laws_eqVersionS_p a0 a1).bind (H := fun (y : Bool) (k : AV × St → Option Res) => (fun (y : Bool) => k ((.bool y : AV), ([] : St))) y) (fun y => par_ret _)

def laws_markText_g (args : List AV) (st : St) (k : K1) : Option Res :=
  onPats [.int .i64] [] args st (fun p q => laws_markText_k p.1 (fun (y : ByteArray) => k (.str y) []))
    (none)

theorem laws_markText_q (a0 : Int) : Par (fun k : AV × St → Option Res => laws_markText_g [.int .i64 a0] [] (fun v s => k (v, s))) :=
  (laws_markText_p a0).bind (H := fun (y : ByteArray) (k : AV × St → Option Res) => (fun (y : ByteArray) => k ((.str y : AV), ([] : St))) y) (fun y => par_ret _)

def laws_markRangeS_g (args : List AV) (st : St) (k : K1) : Option Res :=
  onPats [.own 0, .int .i64] [.arr tRange] args st (fun p q => laws_markRangeS_vo_k p.2.1 q.1 (fun (y : (Int × (List dRange))) => k (.int .i64 y.1) [.arr tRange y.2]))
    (none)

theorem laws_markRangeS_vo_q (a0 : Int) (a1 : (List dRange)) : Par (fun k : AV × St → Option Res => laws_markRangeS_g [.own 0, .int .i64 a0] [.arr tRange a1] (fun v s => k (v, s))) :=
  (laws_markRangeS_vo_p a0 a1).bind (H := fun (y : (Int × (List dRange))) (k : AV × St → Option Res) => (fun (y : (Int × (List dRange))) => k ((.int .i64 y.1 : AV), ([.arr tRange y.2] : St))) y) (fun y => par_ret _)

def laws_markWriteS_g (args : List AV) (st : St) (k : K1) : Option Res :=
  onPats [.own 0, .int .i64] [.arr tWrite] args st (fun p q => laws_markWriteS_vo_k p.2.1 q.1 (fun (y : (Int × (List dWrite))) => k (.int .i64 y.1) [.arr tWrite y.2]))
    (none)

theorem laws_markWriteS_vo_q (a0 : Int) (a1 : (List dWrite)) : Par (fun k : AV × St → Option Res => laws_markWriteS_g [.own 0, .int .i64 a0] [.arr tWrite a1] (fun v s => k (v, s))) :=
  (laws_markWriteS_vo_p a0 a1).bind (H := fun (y : (Int × (List dWrite))) (k : AV × St → Option Res) => (fun (y : (Int × (List dWrite))) => k ((.int .i64 y.1 : AV), ([.arr tWrite y.2] : St))) y) (fun y => par_ret _)

def laws_markTxn_g (args : List AV) (st : St) (k : K1) : Option Res :=
  onPats [.agg [.int .i64, .int .i64, .int .i64, .int .i64, .own 0, .own 1, .bool, .str], .int .i64] [.arr tRange, .arr tWrite] args st (fun p q => laws_markTxn_va_k p.1.1 p.1.2.1 p.1.2.2.1 p.1.2.2.2.1 p.1.2.2.2.2.2.2.1 p.1.2.2.2.2.2.2.2.1 p.2.1 q.1 q.2.1 (fun (y : (Int × (List dRange) × (List dWrite))) => k (.int .i64 y.1) [.arr tRange y.2.1, .arr tWrite y.2.2]))
    (none)

theorem laws_markTxn_va_q (a0 : Int) (a1 : Int) (a2 : Int) (a3 : Int) (a4 : Bool) (a5 : ByteArray) (a6 : Int) (a7 : (List dRange)) (a8 : (List dWrite)) : Par (fun k : AV × St → Option Res => laws_markTxn_g [.agg [.int .i64 a0, .int .i64 a1, .int .i64 a2, .int .i64 a3, .own 0, .own 1, .bool a4, .str a5], .int .i64 a6] [.arr tRange a7, .arr tWrite a8] (fun v s => k (v, s))) :=
  (laws_markTxn_va_p a0 a1 a2 a3 a4 a5 a6 a7 a8).bind (H := fun (y : (Int × (List dRange) × (List dWrite))) (k : AV × St → Option Res) => (fun (y : (Int × (List dRange) × (List dWrite))) => k ((.int .i64 y.1 : AV), ([.arr tRange y.2.1, .arr tWrite y.2.2] : St))) y) (fun y => par_ret _)

def laws_markVersionS_g (args : List AV) (st : St) (k : K1) : Option Res :=
  onPats [.own 0, .int .i64] [.arr tVersion] args st (fun p q => laws_markVersionS_vo_k p.2.1 q.1 (fun (y : (Int × (List dVersion))) => k (.int .i64 y.1) [.arr tVersion y.2]))
    (none)

theorem laws_markVersionS_vo_q (a0 : Int) (a1 : (List dVersion)) : Par (fun k : AV × St → Option Res => laws_markVersionS_g [.own 0, .int .i64 a0] [.arr tVersion a1] (fun v s => k (v, s))) :=
  (laws_markVersionS_vo_p a0 a1).bind (H := fun (y : (Int × (List dVersion))) (k : AV × St → Option Res) => (fun (y : (Int × (List dVersion))) => k ((.int .i64 y.1 : AV), ([.arr tVersion y.2] : St))) y) (fun y => par_ret _)

def laws_markPairS_g (args : List AV) (st : St) (k : K1) : Option Res :=
  onPats [.own 0, .int .i64] [.arr tRange] args st (fun p q => laws_markPairS_vo_k p.2.1 q.1 (fun (y : (Int × (List dRange))) => k (.int .i64 y.1) [.arr tRange y.2]))
    (none)

theorem laws_markPairS_vo_q (a0 : Int) (a1 : (List dRange)) : Par (fun k : AV × St → Option Res => laws_markPairS_g [.own 0, .int .i64 a0] [.arr tRange a1] (fun v s => k (v, s))) :=
  (laws_markPairS_vo_p a0 a1).bind (H := fun (y : (Int × (List dRange))) (k : AV × St → Option Res) => (fun (y : (Int × (List dRange))) => k ((.int .i64 y.1 : AV), ([.arr tRange y.2] : St))) y) (fun y => par_ret _)

def laws_heldPairS_g (args : List AV) (st : St) (k : K1) : Option Res :=
  onPats [.lst tRange, .int .i64] [] args st (fun p q => laws_heldPairS_k p.1 p.2.1 (fun (y : Int) => k (.int .i64 y) []))
    (none)

theorem laws_heldPairS_q (a0 : (List dRange)) (a1 : Int) : Par (fun k : AV × St → Option Res => laws_heldPairS_g [.lst tRange a0, .int .i64 a1] [] (fun v s => k (v, s))) :=
  (laws_heldPairS_p a0 a1).bind (H := fun (y : Int) (k : AV × St → Option Res) => (fun (y : Int) => k ((.int .i64 y : AV), ([] : St))) y) (fun y => par_ret _)

def laws_FnExactOwnScan_g (args : List AV) (st : St) (k : K1) : Option Res :=
  onPats [.agg [.int .i64, .int .i64, .int .i64, .int .i64, .lst tRange, .lst tWrite, .bool, .str], .lst tVersion, .agg [.str, .str]] [] args st (fun p q => laws_FnExactOwnScan_k (p.1.1, (p.1.2.1, (p.1.2.2.1, (p.1.2.2.2.1, (p.1.2.2.2.2.1, (p.1.2.2.2.2.2.1, (p.1.2.2.2.2.2.2.1, p.1.2.2.2.2.2.2.2.1))))))) p.2.1 (p.2.2.1.1, p.2.2.1.2.1) (fun (y : Bool) => k (.bool y) []))
    (none)

theorem laws_FnExactOwnScan_q (a0 : Int) (a1 : Int) (a2 : Int) (a3 : Int) (a4 : (List dRange)) (a5 : (List dWrite)) (a6 : Bool) (a7 : ByteArray) (a8 : (List dVersion)) (a9 : ByteArray) (a10 : ByteArray) : Par (fun k : AV × St → Option Res => laws_FnExactOwnScan_g [.agg [.int .i64 a0, .int .i64 a1, .int .i64 a2, .int .i64 a3, .lst tRange a4, .lst tWrite a5, .bool a6, .str a7], .lst tVersion a8, .agg [.str a9, .str a10]] [] (fun v s => k (v, s))) :=
  (laws_FnExactOwnScan_p (a0, (a1, (a2, (a3, (a4, (a5, (a6, a7))))))) a8 (a9, a10)).bind (H := fun (y : Bool) (k : AV × St → Option Res) => (fun (y : Bool) => k ((.bool y : AV), ([] : St))) y) (fun y => par_ret _)

end

end Go.VE
