/- Native programs of the functions, written by gen.py. -/

import Derived.Test.YteolgjmeigifbaaT0
import Derived.Test.YteolgjmeigifbaaV28

namespace Go.VE

noncomputable section

set_option linter.unusedVariables false
set_option linter.unusedSimpArgs false
set_option maxRecDepth 100000


abbrev q0T : Type := ((List (List dVersion)) × Int × (List (List dVersion)) × Int × Int)
abbrev q1T : Type := ((List (List dVersion)) × Int × Int × (List dVersion))
abbrev q2T : Type := ((List ByteArray) × Int × Int × (List Int))
abbrev q3T : Type := ((List Int) × Int × Int × (List Int))
abbrev q4T : Type := ((List dRange) × (List dRange) × Bool × Int × Int)
abbrev q5T : Type := ((List dRange) × (List dRange) × Bool × Int)
abbrev q6T : Type := ((List dRange) × Int × (List dRange))
abbrev q7T : Type := ((List dRange) × Int × Int × Int × Int × Int × Int × (List dRange) × (List dWrite) × Bool × ByteArray × (List Int))
abbrev q8T : Type := ((List dRange) × Int × Int × Int)
abbrev q9T : Type := ((List dTxn) × (List dTxn) × Bool × Int)
abbrev q10T : Type := ((List dTxn) × Bool × (List dTxn) × Int × Int)
abbrev q11T : Type := ((List dTxn) × Int × (List dTxn))
abbrev q12T : Type := ((List dTxn) × Int × Int × Int)
abbrev q13T : Type := ((List dVersion) × (List dVersion) × Bool × Int)
abbrev q14T : Type := ((List dVersion) × (List dVersion) × Int × Bool × Int × ByteArray × ByteArray)
abbrev q15T : Type := ((List dVersion) × (List dVersion) × Int × Bool × Int × Int × ByteArray × ByteArray)
abbrev q16T : Type := ((List dVersion) × ByteArray × Int × Int × (List dVersion) × Int × Int)
abbrev q17T : Type := ((List dVersion) × ByteArray × Int × Int × Int)
abbrev q18T : Type := ((List dVersion) × Int × (List dVersion))
abbrev q19T : Type := ((List dVersion) × Int × ByteArray × ByteArray × (List ByteArray))
abbrev q20T : Type := ((List dVersion) × Int × ByteArray × Int × ByteArray × ByteArray × (List ByteArray) × (List ByteArray))
abbrev q21T : Type := ((List dVersion) × Int × Int × (List ByteArray))
abbrev q22T : Type := ((List dVersion) × Int × Int × (List dRange) × (List ByteArray))
abbrev q23T : Type := ((List dVersion) × Int × Int × Int × ByteArray × ByteArray × (List dRange) × (List ByteArray))
abbrev q24T : Type := ((List dVersion) × Int × Int × Int)
abbrev q25T : Type := ((List dWrite) × (List dWrite) × Bool × Int)
abbrev q26T : Type := ((List dWrite) × Bool × (List dWrite) × Int × Int)
abbrev q27T : Type := ((List dWrite) × Int × (List dWrite))
abbrev q28T : Type := ((List dWrite) × Int × Int × Int × Int × Int × Int × (List dRange) × (List dWrite) × Bool × ByteArray × (List Int))
abbrev q29T : Type := ((List dWrite) × Int × Int × Int)
abbrev q30T : Type := (Bool × (List dRange) × Int × Int × Int × Int × Int × Int × (List dRange) × (List dWrite) × Bool × ByteArray)
abbrev q31T : Type := (Bool × (List dVersion) × (List dVersion))
abbrev q32T : Type := (Bool × Int × Int × Int × Int × (List dRange) × (List dWrite) × Bool × ByteArray)
abbrev q33T : Type := (Bool × Int × Int × Int × Int × Int × (List dRange) × (List dWrite) × Bool × ByteArray)
abbrev q34T : Type := (ByteArray × ByteArray × Bool × Int)
abbrev q35T : Type := (ByteArray × Int × Int × Int × Int × Int × (List dRange) × (List dWrite) × Bool × ByteArray)
abbrev q36T : Type := (Int × (List ByteArray) × (List ByteArray))
abbrev q37T : Type := (Int × Bool × Int × Int × (List dVersion) × (List dVersion) × (List dVersion))
abbrev q38T : Type := (Int × Int × (List dVersion) × (List dTxn) × (List dTxn))
abbrev q39T : Type := (Int × Int × Int × Int × Bool × ByteArray × (List dRange) × (List dWrite))

def laws_szVersion_d (a0 : dVersion) (a1 : Int) (k : Int → Option Res) : Option Res :=
  bif (decide ((IntKind.wrap .i64 (a1 - (a0.1.size : Int))) < (0 : Int))) then
    k (-1 : Int)
  else
    bif (decide ((IntKind.wrap .i64 ((IntKind.wrap .i64 (a1 - (a0.1.size : Int))) - (a0.2.1.size : Int))) < (0 : Int))) then
      k (-1 : Int)
    else
      k (IntKind.wrap .i64 ((IntKind.wrap .i64 (a1 - (a0.1.size : Int))) - (a0.2.1.size : Int)))

theorem laws_szVersion_h : ∃ g : dVersion → Int → (Int → Option Res) → Option Res, g = laws_szVersion_d := ⟨_, rfl⟩
def laws_szVersion_k : dVersion → Int → (Int → Option Res) → Option Res := Classical.choose laws_szVersion_h
theorem laws_szVersion_e : laws_szVersion_k = laws_szVersion_d := Classical.choose_spec laws_szVersion_h

theorem laws_szVersion_p (a0 : dVersion) (a1 : Int) : Par (laws_szVersion_k a0 a1) := by
  rw [laws_szVersion_e]
  unfold laws_szVersion_d
  exact (par_bif (par_ret _) (par_bif (par_ret _) (par_ret _)))

def laws_szVersionS_b0 (x : q24T) (k : q24T ⊕ (q24T ⊕ q24T) → Option Res) : Option Res :=
    bif (decide (x.2.2.2 < (x.1.length : Int))) then
      if 0 ≤ x.2.2.2 ∧ x.2.2.2 < (x.1.length : Int) then
        laws_szVersion_k (rd (Ty.zero tVersion) x.1 x.2.2.2) x.2.1 (fun y3 =>
          bif (decide (y3 < (0 : Int))) then
            k (.inr (.inl (x.1, y3, (-1 : Int), x.2.2.2)))
          else
            k (.inl (x.1, y3, x.2.2.1, (IntKind.wrap .i64 (x.2.2.2 + (1 : Int))))))
      else none
    else
      k (.inr (.inr (x.1, x.2.1, x.2.2.1, x.2.2.2)))

theorem laws_szVersionS_bp0 (x : q24T) : Par (laws_szVersionS_b0 x) := by
  unfold laws_szVersionS_b0
  exact (par_bif (par_ite (c := 0 ≤ x.2.2.2 ∧ x.2.2.2 < (x.1.length : Int)) ((laws_szVersion_p (rd (Ty.zero tVersion) x.1 x.2.2.2) x.2.1).bind fun y3 => (par_bif (par_ret _) (par_ret _))) par_none) (par_ret _))

def laws_szVersionS_d (a0 : (List dVersion)) (a1 : Int) (k : Int → Option Res) : Option Res :=
  bif (decide ((IntKind.wrap .i64 (a1 - (a0.length : Int))) < (0 : Int))) then
    k (-1 : Int)
  else
    loopK laws_szVersionS_b0 Fuel (a0, (IntKind.wrap .i64 (a1 - (a0.length : Int))), (0 : Int), (0 : Int)) (Sum.elim (fun z1 =>
      k z1.2.2.1) (fun z2 =>
      k z2.2.1))

theorem laws_szVersionS_h : ∃ g : (List dVersion) → Int → (Int → Option Res) → Option Res, g = laws_szVersionS_d := ⟨_, rfl⟩
def laws_szVersionS_k : (List dVersion) → Int → (Int → Option Res) → Option Res := Classical.choose laws_szVersionS_h
theorem laws_szVersionS_e : laws_szVersionS_k = laws_szVersionS_d := Classical.choose_spec laws_szVersionS_h

theorem laws_szVersionS_p (a0 : (List dVersion)) (a1 : Int) : Par (laws_szVersionS_k a0 a1) := by
  rw [laws_szVersionS_e]
  unfold laws_szVersionS_d
  exact (par_bif (par_ret _) ((par_loop laws_szVersionS_bp0 Fuel (a0, (IntKind.wrap .i64 (a1 - (a0.length : Int))), (0 : Int), (0 : Int))).bind2 (fun z1 => (par_ret _)) (fun z2 => (par_ret _))))

def laws_szRange_d (a0 : dRange) (a1 : Int) (k : Int → Option Res) : Option Res :=
  bif (decide ((IntKind.wrap .i64 (a1 - (a0.1.size : Int))) < (0 : Int))) then
    k (-1 : Int)
  else
    bif (decide ((IntKind.wrap .i64 ((IntKind.wrap .i64 (a1 - (a0.1.size : Int))) - (a0.2.size : Int))) < (0 : Int))) then
      k (-1 : Int)
    else
      k (IntKind.wrap .i64 ((IntKind.wrap .i64 (a1 - (a0.1.size : Int))) - (a0.2.size : Int)))

theorem laws_szRange_h : ∃ g : dRange → Int → (Int → Option Res) → Option Res, g = laws_szRange_d := ⟨_, rfl⟩
def laws_szRange_k : dRange → Int → (Int → Option Res) → Option Res := Classical.choose laws_szRange_h
theorem laws_szRange_e : laws_szRange_k = laws_szRange_d := Classical.choose_spec laws_szRange_h

theorem laws_szRange_p (a0 : dRange) (a1 : Int) : Par (laws_szRange_k a0 a1) := by
  rw [laws_szRange_e]
  unfold laws_szRange_d
  exact (par_bif (par_ret _) (par_bif (par_ret _) (par_ret _)))

def laws_szRangeS_b0 (x : q8T) (k : q8T ⊕ (q8T ⊕ q8T) → Option Res) : Option Res :=
    bif (decide (x.2.2.2 < (x.1.length : Int))) then
      if 0 ≤ x.2.2.2 ∧ x.2.2.2 < (x.1.length : Int) then
        laws_szRange_k (rd (Ty.zero tRange) x.1 x.2.2.2) x.2.1 (fun y3 =>
          bif (decide (y3 < (0 : Int))) then
            k (.inr (.inl (x.1, y3, (-1 : Int), x.2.2.2)))
          else
            k (.inl (x.1, y3, x.2.2.1, (IntKind.wrap .i64 (x.2.2.2 + (1 : Int))))))
      else none
    else
      k (.inr (.inr (x.1, x.2.1, x.2.2.1, x.2.2.2)))

theorem laws_szRangeS_bp0 (x : q8T) : Par (laws_szRangeS_b0 x) := by
  unfold laws_szRangeS_b0
  exact (par_bif (par_ite (c := 0 ≤ x.2.2.2 ∧ x.2.2.2 < (x.1.length : Int)) ((laws_szRange_p (rd (Ty.zero tRange) x.1 x.2.2.2) x.2.1).bind fun y3 => (par_bif (par_ret _) (par_ret _))) par_none) (par_ret _))

def laws_szRangeS_d (a0 : (List dRange)) (a1 : Int) (k : Int → Option Res) : Option Res :=
  bif (decide ((IntKind.wrap .i64 (a1 - (a0.length : Int))) < (0 : Int))) then
    k (-1 : Int)
  else
    loopK laws_szRangeS_b0 Fuel (a0, (IntKind.wrap .i64 (a1 - (a0.length : Int))), (0 : Int), (0 : Int)) (Sum.elim (fun z1 =>
      k z1.2.2.1) (fun z2 =>
      k z2.2.1))

theorem laws_szRangeS_h : ∃ g : (List dRange) → Int → (Int → Option Res) → Option Res, g = laws_szRangeS_d := ⟨_, rfl⟩
def laws_szRangeS_k : (List dRange) → Int → (Int → Option Res) → Option Res := Classical.choose laws_szRangeS_h
theorem laws_szRangeS_e : laws_szRangeS_k = laws_szRangeS_d := Classical.choose_spec laws_szRangeS_h

theorem laws_szRangeS_p (a0 : (List dRange)) (a1 : Int) : Par (laws_szRangeS_k a0 a1) := by
  rw [laws_szRangeS_e]
  unfold laws_szRangeS_d
  exact (par_bif (par_ret _) ((par_loop laws_szRangeS_bp0 Fuel (a0, (IntKind.wrap .i64 (a1 - (a0.length : Int))), (0 : Int), (0 : Int))).bind2 (fun z1 => (par_ret _)) (fun z2 => (par_ret _))))

def laws_szWrite_d (a0 : dWrite) (a1 : Int) (k : Int → Option Res) : Option Res :=
  bif (decide ((IntKind.wrap .i64 (a1 - (a0.1.size : Int))) < (0 : Int))) then
    k (-1 : Int)
  else
    bif (decide ((IntKind.wrap .i64 ((IntKind.wrap .i64 (a1 - (a0.1.size : Int))) - (a0.2.1.size : Int))) < (0 : Int))) then
      k (-1 : Int)
    else
      k (IntKind.wrap .i64 ((IntKind.wrap .i64 (a1 - (a0.1.size : Int))) - (a0.2.1.size : Int)))

theorem laws_szWrite_h : ∃ g : dWrite → Int → (Int → Option Res) → Option Res, g = laws_szWrite_d := ⟨_, rfl⟩
def laws_szWrite_k : dWrite → Int → (Int → Option Res) → Option Res := Classical.choose laws_szWrite_h
theorem laws_szWrite_e : laws_szWrite_k = laws_szWrite_d := Classical.choose_spec laws_szWrite_h

theorem laws_szWrite_p (a0 : dWrite) (a1 : Int) : Par (laws_szWrite_k a0 a1) := by
  rw [laws_szWrite_e]
  unfold laws_szWrite_d
  exact (par_bif (par_ret _) (par_bif (par_ret _) (par_ret _)))

def laws_szWriteS_b0 (x : q29T) (k : q29T ⊕ (q29T ⊕ q29T) → Option Res) : Option Res :=
    bif (decide (x.2.2.2 < (x.1.length : Int))) then
      if 0 ≤ x.2.2.2 ∧ x.2.2.2 < (x.1.length : Int) then
        laws_szWrite_k (rd (Ty.zero tWrite) x.1 x.2.2.2) x.2.1 (fun y3 =>
          bif (decide (y3 < (0 : Int))) then
            k (.inr (.inl (x.1, y3, (-1 : Int), x.2.2.2)))
          else
            k (.inl (x.1, y3, x.2.2.1, (IntKind.wrap .i64 (x.2.2.2 + (1 : Int))))))
      else none
    else
      k (.inr (.inr (x.1, x.2.1, x.2.2.1, x.2.2.2)))

theorem laws_szWriteS_bp0 (x : q29T) : Par (laws_szWriteS_b0 x) := by
  unfold laws_szWriteS_b0
  exact (par_bif (par_ite (c := 0 ≤ x.2.2.2 ∧ x.2.2.2 < (x.1.length : Int)) ((laws_szWrite_p (rd (Ty.zero tWrite) x.1 x.2.2.2) x.2.1).bind fun y3 => (par_bif (par_ret _) (par_ret _))) par_none) (par_ret _))

def laws_szWriteS_d (a0 : (List dWrite)) (a1 : Int) (k : Int → Option Res) : Option Res :=
  bif (decide ((IntKind.wrap .i64 (a1 - (a0.length : Int))) < (0 : Int))) then
    k (-1 : Int)
  else
    loopK laws_szWriteS_b0 Fuel (a0, (IntKind.wrap .i64 (a1 - (a0.length : Int))), (0 : Int), (0 : Int)) (Sum.elim (fun z1 =>
      k z1.2.2.1) (fun z2 =>
      k z2.2.1))

theorem laws_szWriteS_h : ∃ g : (List dWrite) → Int → (Int → Option Res) → Option Res, g = laws_szWriteS_d := ⟨_, rfl⟩
def laws_szWriteS_k : (List dWrite) → Int → (Int → Option Res) → Option Res := Classical.choose laws_szWriteS_h
theorem laws_szWriteS_e : laws_szWriteS_k = laws_szWriteS_d := Classical.choose_spec laws_szWriteS_h

theorem laws_szWriteS_p (a0 : (List dWrite)) (a1 : Int) : Par (laws_szWriteS_k a0 a1) := by
  rw [laws_szWriteS_e]
  unfold laws_szWriteS_d
  exact (par_bif (par_ret _) ((par_loop laws_szWriteS_bp0 Fuel (a0, (IntKind.wrap .i64 (a1 - (a0.length : Int))), (0 : Int), (0 : Int))).bind2 (fun z1 => (par_ret _)) (fun z2 => (par_ret _))))

def laws_szTxn_d (a0 : dTxn) (a1 : Int) (k : Int → Option Res) : Option Res :=
  laws_szRangeS_k a0.2.2.2.2.1 a1 (fun y1 =>
    bif (decide (y1 < (0 : Int))) then
      k (-1 : Int)
    else
      laws_szWriteS_k a0.2.2.2.2.2.1 y1 (fun y2 =>
        bif (decide (y2 < (0 : Int))) then
          k (-1 : Int)
        else
          bif (decide ((IntKind.wrap .i64 (y2 - (a0.2.2.2.2.2.2.2.size : Int))) < (0 : Int))) then
            k (-1 : Int)
          else
            k (IntKind.wrap .i64 (y2 - (a0.2.2.2.2.2.2.2.size : Int)))))

theorem laws_szTxn_h : ∃ g : dTxn → Int → (Int → Option Res) → Option Res, g = laws_szTxn_d := ⟨_, rfl⟩
def laws_szTxn_k : dTxn → Int → (Int → Option Res) → Option Res := Classical.choose laws_szTxn_h
theorem laws_szTxn_e : laws_szTxn_k = laws_szTxn_d := Classical.choose_spec laws_szTxn_h

theorem laws_szTxn_p (a0 : dTxn) (a1 : Int) : Par (laws_szTxn_k a0 a1) := by
  rw [laws_szTxn_e]
  unfold laws_szTxn_d
  exact ((laws_szRangeS_p a0.2.2.2.2.1 a1).bind fun y1 => (par_bif (par_ret _) ((laws_szWriteS_p a0.2.2.2.2.2.1 y1).bind fun y2 => (par_bif (par_ret _) (par_bif (par_ret _) (par_ret _))))))

def laws_szTxnS_b0 (x : q12T) (k : q12T ⊕ (q12T ⊕ q12T) → Option Res) : Option Res :=
    bif (decide (x.2.2.2 < (x.1.length : Int))) then
      if 0 ≤ x.2.2.2 ∧ x.2.2.2 < (x.1.length : Int) then
        laws_szTxn_k (rd (Ty.zero tTxn) x.1 x.2.2.2) x.2.1 (fun y3 =>
          bif (decide (y3 < (0 : Int))) then
            k (.inr (.inl (x.1, y3, (-1 : Int), x.2.2.2)))
          else
            k (.inl (x.1, y3, x.2.2.1, (IntKind.wrap .i64 (x.2.2.2 + (1 : Int))))))
      else none
    else
      k (.inr (.inr (x.1, x.2.1, x.2.2.1, x.2.2.2)))

theorem laws_szTxnS_bp0 (x : q12T) : Par (laws_szTxnS_b0 x) := by
  unfold laws_szTxnS_b0
  exact (par_bif (par_ite (c := 0 ≤ x.2.2.2 ∧ x.2.2.2 < (x.1.length : Int)) ((laws_szTxn_p (rd (Ty.zero tTxn) x.1 x.2.2.2) x.2.1).bind fun y3 => (par_bif (par_ret _) (par_ret _))) par_none) (par_ret _))

def laws_szTxnS_d (a0 : (List dTxn)) (a1 : Int) (k : Int → Option Res) : Option Res :=
  bif (decide ((IntKind.wrap .i64 (a1 - (a0.length : Int))) < (0 : Int))) then
    k (-1 : Int)
  else
    loopK laws_szTxnS_b0 Fuel (a0, (IntKind.wrap .i64 (a1 - (a0.length : Int))), (0 : Int), (0 : Int)) (Sum.elim (fun z1 =>
      k z1.2.2.1) (fun z2 =>
      k z2.2.1))

theorem laws_szTxnS_h : ∃ g : (List dTxn) → Int → (Int → Option Res) → Option Res, g = laws_szTxnS_d := ⟨_, rfl⟩
def laws_szTxnS_k : (List dTxn) → Int → (Int → Option Res) → Option Res := Classical.choose laws_szTxnS_h
theorem laws_szTxnS_e : laws_szTxnS_k = laws_szTxnS_d := Classical.choose_spec laws_szTxnS_h

theorem laws_szTxnS_p (a0 : (List dTxn)) (a1 : Int) : Par (laws_szTxnS_k a0 a1) := by
  rw [laws_szTxnS_e]
  unfold laws_szTxnS_d
  exact (par_bif (par_ret _) ((par_loop laws_szTxnS_bp0 Fuel (a0, (IntKind.wrap .i64 (a1 - (a0.length : Int))), (0 : Int), (0 : Int))).bind2 (fun z1 => (par_ret _)) (fun z2 => (par_ret _))))

def laws_szBase_d (a0 : dBase) (a1 : Int) (k : Int → Option Res) : Option Res :=
  laws_szVersionS_k a0.1 a1 (fun y1 =>
    bif (decide (y1 < (0 : Int))) then
      k (-1 : Int)
    else
      laws_szTxnS_k a0.2.1 y1 (fun y2 =>
        bif (decide (y2 < (0 : Int))) then
          k (-1 : Int)
        else
          laws_szTxnS_k a0.2.2.1 y2 (fun y3 =>
            bif (decide (y3 < (0 : Int))) then
              k (-1 : Int)
            else
              k y3)))

theorem laws_szBase_h : ∃ g : dBase → Int → (Int → Option Res) → Option Res, g = laws_szBase_d := ⟨_, rfl⟩
def laws_szBase_k : dBase → Int → (Int → Option Res) → Option Res := Classical.choose laws_szBase_h
theorem laws_szBase_e : laws_szBase_k = laws_szBase_d := Classical.choose_spec laws_szBase_h

theorem laws_szBase_p (a0 : dBase) (a1 : Int) : Par (laws_szBase_k a0 a1) := by
  rw [laws_szBase_e]
  unfold laws_szBase_d
  exact ((laws_szVersionS_p a0.1 a1).bind fun y1 => (par_bif (par_ret _) ((laws_szTxnS_p a0.2.1 y1).bind fun y2 => (par_bif (par_ret _) ((laws_szTxnS_p a0.2.2.1 y2).bind fun y3 => (par_bif (par_ret _) (par_ret _)))))))

def laws_toVersion_d (a0 : dVersion) (k : q34T → Option Res) : Option Res :=
  k (a0.1, a0.2.1, a0.2.2.1, a0.2.2.2)

theorem laws_toVersion_h : ∃ g : dVersion → (q34T → Option Res) → Option Res, g = laws_toVersion_d := ⟨_, rfl⟩
def laws_toVersion_k : dVersion → (q34T → Option Res) → Option Res := Classical.choose laws_toVersion_h
theorem laws_toVersion_e : laws_toVersion_k = laws_toVersion_d := Classical.choose_spec laws_toVersion_h

theorem laws_toVersion_p (a0 : dVersion) : Par (laws_toVersion_k a0) := by
  rw [laws_toVersion_e]
  unfold laws_toVersion_d
  exact (par_ret _)

def laws_toVersionS_b0 (x : q18T) (k : q18T ⊕ q18T → Option Res) : Option Res :=
    bif (decide (x.2.1 < (x.1.length : Int))) then
      if 0 ≤ x.2.1 ∧ x.2.1 < (x.1.length : Int) then
        laws_toVersion_k (rd (Ty.zero tVersion) x.1 x.2.1) (fun y2 =>
          if 0 ≤ x.2.1 ∧ x.2.1 < (x.2.2.length : Int) then
            k (.inl (x.1, (IntKind.wrap .i64 (x.2.1 + (1 : Int))), (x.2.2.set x.2.1.toNat y2)))
          else none)
      else none
    else
      k (.inr (x.1, x.2.1, x.2.2))

theorem laws_toVersionS_bp0 (x : q18T) : Par (laws_toVersionS_b0 x) := by
  unfold laws_toVersionS_b0
  exact (par_bif (par_ite (c := 0 ≤ x.2.1 ∧ x.2.1 < (x.1.length : Int)) ((laws_toVersion_p (rd (Ty.zero tVersion) x.1 x.2.1)).bind fun y2 => (par_ite (c := 0 ≤ x.2.1 ∧ x.2.1 < (x.2.2.length : Int)) (par_ret _) par_none)) par_none) (par_ret _))

def laws_toVersionS_d (a0 : (List dVersion)) (k : (List dVersion) → Option Res) : Option Res :=
  if 0 ≤ (a0.length : Int) ∧ (a0.length : Int) ≤ (a0.length : Int) ∧ (a0.length : Int) ≤ (VE.maxLen : Int) then
    loopK laws_toVersionS_b0 Fuel (a0, (0 : Int), (List.replicate (a0.length : Int).toNat (Ty.zero tVersion))) (fun z1 =>
      k z1.2.2)
  else none

theorem laws_toVersionS_h : ∃ g : (List dVersion) → ((List dVersion) → Option Res) → Option Res, g = laws_toVersionS_d := ⟨_, rfl⟩
def laws_toVersionS_k : (List dVersion) → ((List dVersion) → Option Res) → Option Res := Classical.choose laws_toVersionS_h
theorem laws_toVersionS_e : laws_toVersionS_k = laws_toVersionS_d := Classical.choose_spec laws_toVersionS_h

theorem laws_toVersionS_p (a0 : (List dVersion)) : Par (laws_toVersionS_k a0) := by
  rw [laws_toVersionS_e]
  unfold laws_toVersionS_d
  exact (par_ite (c := 0 ≤ (a0.length : Int) ∧ (a0.length : Int) ≤ (a0.length : Int) ∧ (a0.length : Int) ≤ (VE.maxLen : Int)) ((par_loop laws_toVersionS_bp0 Fuel (a0, (0 : Int), (List.replicate (a0.length : Int).toNat (Ty.zero tVersion)))).bind fun z1 => (par_ret _)) par_none)

def laws_toRange_d (a0 : dRange) (k : (ByteArray × ByteArray) → Option Res) : Option Res :=
  k (a0.1, a0.2)

theorem laws_toRange_h : ∃ g : dRange → ((ByteArray × ByteArray) → Option Res) → Option Res, g = laws_toRange_d := ⟨_, rfl⟩
def laws_toRange_k : dRange → ((ByteArray × ByteArray) → Option Res) → Option Res := Classical.choose laws_toRange_h
theorem laws_toRange_e : laws_toRange_k = laws_toRange_d := Classical.choose_spec laws_toRange_h

theorem laws_toRange_p (a0 : dRange) : Par (laws_toRange_k a0) := by
  rw [laws_toRange_e]
  unfold laws_toRange_d
  exact (par_ret _)

def laws_toRangeS_b0 (x : q6T) (k : q6T ⊕ q6T → Option Res) : Option Res :=
    bif (decide (x.2.1 < (x.1.length : Int))) then
      if 0 ≤ x.2.1 ∧ x.2.1 < (x.1.length : Int) then
        laws_toRange_k (rd (Ty.zero tRange) x.1 x.2.1) (fun y2 =>
          if 0 ≤ x.2.1 ∧ x.2.1 < (x.2.2.length : Int) then
            k (.inl (x.1, (IntKind.wrap .i64 (x.2.1 + (1 : Int))), (x.2.2.set x.2.1.toNat y2)))
          else none)
      else none
    else
      k (.inr (x.1, x.2.1, x.2.2))

theorem laws_toRangeS_bp0 (x : q6T) : Par (laws_toRangeS_b0 x) := by
  unfold laws_toRangeS_b0
  exact (par_bif (par_ite (c := 0 ≤ x.2.1 ∧ x.2.1 < (x.1.length : Int)) ((laws_toRange_p (rd (Ty.zero tRange) x.1 x.2.1)).bind fun y2 => (par_ite (c := 0 ≤ x.2.1 ∧ x.2.1 < (x.2.2.length : Int)) (par_ret _) par_none)) par_none) (par_ret _))

def laws_toRangeS_d (a0 : (List dRange)) (k : (List dRange) → Option Res) : Option Res :=
  if 0 ≤ (a0.length : Int) ∧ (a0.length : Int) ≤ (a0.length : Int) ∧ (a0.length : Int) ≤ (VE.maxLen : Int) then
    loopK laws_toRangeS_b0 Fuel (a0, (0 : Int), (List.replicate (a0.length : Int).toNat (Ty.zero tRange))) (fun z1 =>
      k z1.2.2)
  else none

theorem laws_toRangeS_h : ∃ g : (List dRange) → ((List dRange) → Option Res) → Option Res, g = laws_toRangeS_d := ⟨_, rfl⟩
def laws_toRangeS_k : (List dRange) → ((List dRange) → Option Res) → Option Res := Classical.choose laws_toRangeS_h
theorem laws_toRangeS_e : laws_toRangeS_k = laws_toRangeS_d := Classical.choose_spec laws_toRangeS_h

theorem laws_toRangeS_p (a0 : (List dRange)) : Par (laws_toRangeS_k a0) := by
  rw [laws_toRangeS_e]
  unfold laws_toRangeS_d
  exact (par_ite (c := 0 ≤ (a0.length : Int) ∧ (a0.length : Int) ≤ (a0.length : Int) ∧ (a0.length : Int) ≤ (VE.maxLen : Int)) ((par_loop laws_toRangeS_bp0 Fuel (a0, (0 : Int), (List.replicate (a0.length : Int).toNat (Ty.zero tRange)))).bind fun z1 => (par_ret _)) par_none)

def laws_toWrite_d (a0 : dWrite) (k : (ByteArray × ByteArray × Bool) → Option Res) : Option Res :=
  k (a0.1, a0.2.1, a0.2.2)

theorem laws_toWrite_h : ∃ g : dWrite → ((ByteArray × ByteArray × Bool) → Option Res) → Option Res, g = laws_toWrite_d := ⟨_, rfl⟩
def laws_toWrite_k : dWrite → ((ByteArray × ByteArray × Bool) → Option Res) → Option Res := Classical.choose laws_toWrite_h
theorem laws_toWrite_e : laws_toWrite_k = laws_toWrite_d := Classical.choose_spec laws_toWrite_h

theorem laws_toWrite_p (a0 : dWrite) : Par (laws_toWrite_k a0) := by
  rw [laws_toWrite_e]
  unfold laws_toWrite_d
  exact (par_ret _)

def laws_toWriteS_b0 (x : q27T) (k : q27T ⊕ q27T → Option Res) : Option Res :=
    bif (decide (x.2.1 < (x.1.length : Int))) then
      if 0 ≤ x.2.1 ∧ x.2.1 < (x.1.length : Int) then
        laws_toWrite_k (rd (Ty.zero tWrite) x.1 x.2.1) (fun y2 =>
          if 0 ≤ x.2.1 ∧ x.2.1 < (x.2.2.length : Int) then
            k (.inl (x.1, (IntKind.wrap .i64 (x.2.1 + (1 : Int))), (x.2.2.set x.2.1.toNat y2)))
          else none)
      else none
    else
      k (.inr (x.1, x.2.1, x.2.2))

theorem laws_toWriteS_bp0 (x : q27T) : Par (laws_toWriteS_b0 x) := by
  unfold laws_toWriteS_b0
  exact (par_bif (par_ite (c := 0 ≤ x.2.1 ∧ x.2.1 < (x.1.length : Int)) ((laws_toWrite_p (rd (Ty.zero tWrite) x.1 x.2.1)).bind fun y2 => (par_ite (c := 0 ≤ x.2.1 ∧ x.2.1 < (x.2.2.length : Int)) (par_ret _) par_none)) par_none) (par_ret _))

def laws_toWriteS_d (a0 : (List dWrite)) (k : (List dWrite) → Option Res) : Option Res :=
  if 0 ≤ (a0.length : Int) ∧ (a0.length : Int) ≤ (a0.length : Int) ∧ (a0.length : Int) ≤ (VE.maxLen : Int) then
    loopK laws_toWriteS_b0 Fuel (a0, (0 : Int), (List.replicate (a0.length : Int).toNat (Ty.zero tWrite))) (fun z1 =>
      k z1.2.2)
  else none

theorem laws_toWriteS_h : ∃ g : (List dWrite) → ((List dWrite) → Option Res) → Option Res, g = laws_toWriteS_d := ⟨_, rfl⟩
def laws_toWriteS_k : (List dWrite) → ((List dWrite) → Option Res) → Option Res := Classical.choose laws_toWriteS_h
theorem laws_toWriteS_e : laws_toWriteS_k = laws_toWriteS_d := Classical.choose_spec laws_toWriteS_h

theorem laws_toWriteS_p (a0 : (List dWrite)) : Par (laws_toWriteS_k a0) := by
  rw [laws_toWriteS_e]
  unfold laws_toWriteS_d
  exact (par_ite (c := 0 ≤ (a0.length : Int) ∧ (a0.length : Int) ≤ (a0.length : Int) ∧ (a0.length : Int) ≤ (VE.maxLen : Int)) ((par_loop laws_toWriteS_bp0 Fuel (a0, (0 : Int), (List.replicate (a0.length : Int).toNat (Ty.zero tWrite)))).bind fun z1 => (par_ret _)) par_none)

def laws_toTxn_d (a0 : dTxn) (k : q39T → Option Res) : Option Res :=
  laws_toRangeS_k a0.2.2.2.2.1 (fun y1 =>
    laws_toWriteS_k a0.2.2.2.2.2.1 (fun y2 =>
      k (a0.1, a0.2.1, a0.2.2.1, a0.2.2.2.1, a0.2.2.2.2.2.2.1, a0.2.2.2.2.2.2.2, y1, y2)))

theorem laws_toTxn_h : ∃ g : dTxn → (q39T → Option Res) → Option Res, g = laws_toTxn_d := ⟨_, rfl⟩
def laws_toTxn_k : dTxn → (q39T → Option Res) → Option Res := Classical.choose laws_toTxn_h
theorem laws_toTxn_e : laws_toTxn_k = laws_toTxn_d := Classical.choose_spec laws_toTxn_h

theorem laws_toTxn_p (a0 : dTxn) : Par (laws_toTxn_k a0) := by
  rw [laws_toTxn_e]
  unfold laws_toTxn_d
  exact ((laws_toRangeS_p a0.2.2.2.2.1).bind fun y1 => ((laws_toWriteS_p a0.2.2.2.2.2.1).bind fun y2 => (par_ret _)))

def laws_toTxnS_b0 (x : q11T) (k : q11T ⊕ q11T → Option Res) : Option Res :=
    bif (decide (x.2.1 < (x.1.length : Int))) then
      if 0 ≤ x.2.1 ∧ x.2.1 < (x.1.length : Int) then
        laws_toTxn_k (rd (Ty.zero tTxn) x.1 x.2.1) (fun y2 =>
          if 0 ≤ x.2.1 ∧ x.2.1 < (x.2.2.length : Int) then
            k (.inl (x.1, (IntKind.wrap .i64 (x.2.1 + (1 : Int))), (x.2.2.set x.2.1.toNat (y2.1, (y2.2.1, (y2.2.2.1, (y2.2.2.2.1, (y2.2.2.2.2.2.2.1, (y2.2.2.2.2.2.2.2, (y2.2.2.2.2.1, y2.2.2.2.2.2.1))))))))))
          else none)
      else none
    else
      k (.inr (x.1, x.2.1, x.2.2))

theorem laws_toTxnS_bp0 (x : q11T) : Par (laws_toTxnS_b0 x) := by
  unfold laws_toTxnS_b0
  exact (par_bif (par_ite (c := 0 ≤ x.2.1 ∧ x.2.1 < (x.1.length : Int)) ((laws_toTxn_p (rd (Ty.zero tTxn) x.1 x.2.1)).bind fun y2 => (par_ite (c := 0 ≤ x.2.1 ∧ x.2.1 < (x.2.2.length : Int)) (par_ret _) par_none)) par_none) (par_ret _))

def laws_toTxnS_d (a0 : (List dTxn)) (k : (List dTxn) → Option Res) : Option Res :=
  if 0 ≤ (a0.length : Int) ∧ (a0.length : Int) ≤ (a0.length : Int) ∧ (a0.length : Int) ≤ (VE.maxLen : Int) then
    loopK laws_toTxnS_b0 Fuel (a0, (0 : Int), (List.replicate (a0.length : Int).toNat (Ty.zero tTxn))) (fun z1 =>
      k z1.2.2)
  else none

theorem laws_toTxnS_h : ∃ g : (List dTxn) → ((List dTxn) → Option Res) → Option Res, g = laws_toTxnS_d := ⟨_, rfl⟩
def laws_toTxnS_k : (List dTxn) → ((List dTxn) → Option Res) → Option Res := Classical.choose laws_toTxnS_h
theorem laws_toTxnS_e : laws_toTxnS_k = laws_toTxnS_d := Classical.choose_spec laws_toTxnS_h

theorem laws_toTxnS_p (a0 : (List dTxn)) : Par (laws_toTxnS_k a0) := by
  rw [laws_toTxnS_e]
  unfold laws_toTxnS_d
  exact (par_ite (c := 0 ≤ (a0.length : Int) ∧ (a0.length : Int) ≤ (a0.length : Int) ∧ (a0.length : Int) ≤ (VE.maxLen : Int)) ((par_loop laws_toTxnS_bp0 Fuel (a0, (0 : Int), (List.replicate (a0.length : Int).toNat (Ty.zero tTxn)))).bind fun z1 => (par_ret _)) par_none)

def laws_toBase_d (a0 : dBase) (k : q38T → Option Res) : Option Res :=
  laws_toVersionS_k a0.1 (fun y1 =>
    laws_toTxnS_k a0.2.1 (fun y2 =>
      laws_toTxnS_k a0.2.2.1 (fun y3 =>
        k (a0.2.2.2.1, a0.2.2.2.2, y1, y2, y3))))

theorem laws_toBase_h : ∃ g : dBase → (q38T → Option Res) → Option Res, g = laws_toBase_d := ⟨_, rfl⟩
def laws_toBase_k : dBase → (q38T → Option Res) → Option Res := Classical.choose laws_toBase_h
theorem laws_toBase_e : laws_toBase_k = laws_toBase_d := Classical.choose_spec laws_toBase_h

theorem laws_toBase_p (a0 : dBase) : Par (laws_toBase_k a0) := by
  rw [laws_toBase_e]
  unfold laws_toBase_d
  exact ((laws_toVersionS_p a0.1).bind fun y1 => ((laws_toTxnS_p a0.2.1).bind fun y2 => ((laws_toTxnS_p a0.2.2.1).bind fun y3 => (par_ret _))))

def spec_l01In_d (a0 : Int) (a1 : Int) (a2 : Int) (k : Bool → Option Res) : Option Res :=
  bif (decide (a0 ≥ a1)) then
    k (decide (a0 ≤ a2))
  else
    k false

theorem spec_l01In_h : ∃ g : Int → Int → Int → (Bool → Option Res) → Option Res, g = spec_l01In_d := ⟨_, rfl⟩
def spec_l01In_k : Int → Int → Int → (Bool → Option Res) → Option Res := Classical.choose spec_l01In_h
theorem spec_l01In_e : spec_l01In_k = spec_l01In_d := Classical.choose_spec spec_l01In_h

theorem spec_l01In_p (a0 : Int) (a1 : Int) (a2 : Int) : Par (spec_l01In_k a0 a1 a2) := by
  rw [spec_l01In_e]
  unfold spec_l01In_d
  exact (par_bif (par_ret _) (par_ret _))

def spec_KeyOk_b0 (x : (ByteArray × Bool × Int)) (k : (ByteArray × Bool × Int) ⊕ ((ByteArray × Bool × Int) ⊕ (ByteArray × Bool × Int)) → Option Res) : Option Res :=
    bif (decide (x.2.2 < (x.1.size : Int))) then
      if 0 ≤ x.2.2 ∧ x.2.2 < (x.1.size : Int) then
        bif (decide ((bt x.1 x.2.2) < (97 : Int))) then
          k (.inr (.inl (x.1, false, x.2.2)))
        else
          if 0 ≤ x.2.2 ∧ x.2.2 < (x.1.size : Int) then
            bif (decide ((bt x.1 x.2.2) > (122 : Int))) then
              k (.inr (.inl (x.1, false, x.2.2)))
            else
              k (.inl (x.1, x.2.1, (IntKind.wrap .i64 (x.2.2 + (1 : Int)))))
          else none
      else none
    else
      k (.inr (.inr (x.1, x.2.1, x.2.2)))

theorem spec_KeyOk_bp0 (x : (ByteArray × Bool × Int)) : Par (spec_KeyOk_b0 x) := by
  unfold spec_KeyOk_b0
  exact (par_bif (par_ite (c := 0 ≤ x.2.2 ∧ x.2.2 < (x.1.size : Int)) (par_bif (par_ret _) (par_ite (c := 0 ≤ x.2.2 ∧ x.2.2 < (x.1.size : Int)) (par_bif (par_ret _) (par_ret _)) par_none)) par_none) (par_ret _))

def spec_KeyOk_d (a0 : ByteArray) (k : Bool → Option Res) : Option Res :=
  loopK spec_KeyOk_b0 Fuel (a0, false, (0 : Int)) (Sum.elim (fun z1 =>
    k z1.2.1) (fun z2 =>
    spec_l01In_k (z2.1.size : Int) (1 : Int) (3 : Int) (fun y3 =>
      k y3)))

theorem spec_KeyOk_h : ∃ g : ByteArray → (Bool → Option Res) → Option Res, g = spec_KeyOk_d := ⟨_, rfl⟩
def spec_KeyOk_k : ByteArray → (Bool → Option Res) → Option Res := Classical.choose spec_KeyOk_h
theorem spec_KeyOk_e : spec_KeyOk_k = spec_KeyOk_d := Classical.choose_spec spec_KeyOk_h

theorem spec_KeyOk_p (a0 : ByteArray) : Par (spec_KeyOk_k a0) := by
  rw [spec_KeyOk_e]
  unfold spec_KeyOk_d
  exact ((par_loop spec_KeyOk_bp0 Fuel (a0, false, (0 : Int))).bind2 (fun z1 => (par_ret _)) (fun z2 => ((spec_l01In_p (z2.1.size : Int) (1 : Int) (3 : Int)).bind fun y3 => (par_ret _))))

def spec_WriteOk_d (a0 : dWrite) (k : Bool → Option Res) : Option Res :=
  spec_KeyOk_k a0.1 (fun y1 =>
    bif y1 then
      bif (decide ((a0.2.1.size : Int) ≤ (12 : Int))) then
        bif (!a0.2.2) then
          k true
        else
          k (strEq a0.2.1 (⟨#[]⟩ : ByteArray))
      else
        k false
    else
      k false)

theorem spec_WriteOk_h : ∃ g : dWrite → (Bool → Option Res) → Option Res, g = spec_WriteOk_d := ⟨_, rfl⟩
def spec_WriteOk_k : dWrite → (Bool → Option Res) → Option Res := Classical.choose spec_WriteOk_h
theorem spec_WriteOk_e : spec_WriteOk_k = spec_WriteOk_d := Classical.choose_spec spec_WriteOk_h

theorem spec_WriteOk_p (a0 : dWrite) : Par (spec_WriteOk_k a0) := by
  rw [spec_WriteOk_e]
  unfold spec_WriteOk_d
  exact ((spec_KeyOk_p a0.1).bind fun y1 => (par_bif (par_bif (par_bif (par_ret _) (par_ret _)) (par_ret _)) (par_ret _)))

def spec_WritesOk_b0 (x : ((List dWrite) × Bool × Int)) (k : ((List dWrite) × Bool × Int) ⊕ (((List dWrite) × Bool × Int) ⊕ ((List dWrite) × Bool × Int)) → Option Res) : Option Res :=
    bif (decide (x.2.2 < (x.1.length : Int))) then
      if 0 ≤ x.2.2 ∧ x.2.2 < (x.1.length : Int) then
        spec_WriteOk_k (rd (Ty.zero tWrite) x.1 x.2.2) (fun y3 =>
          bif (!y3) then
            k (.inr (.inl (x.1, false, x.2.2)))
          else
            bif (decide (x.2.2 > (0 : Int))) then
              if 0 ≤ (IntKind.wrap .i64 (x.2.2 - (1 : Int))) ∧ (IntKind.wrap .i64 (x.2.2 - (1 : Int))) < (x.1.length : Int) then
                if 0 ≤ x.2.2 ∧ x.2.2 < (x.1.length : Int) then
                  bif (!(strLess ((rd (Ty.zero tWrite) x.1 (IntKind.wrap .i64 (x.2.2 - (1 : Int)))).1) ((rd (Ty.zero tWrite) x.1 x.2.2).1))) then
                    k (.inr (.inl (x.1, false, x.2.2)))
                  else
                    k (.inl (x.1, x.2.1, (IntKind.wrap .i64 (x.2.2 + (1 : Int)))))
                else none
              else none
            else
              k (.inl (x.1, x.2.1, (IntKind.wrap .i64 (x.2.2 + (1 : Int))))))
      else none
    else
      k (.inr (.inr (x.1, x.2.1, x.2.2)))

theorem spec_WritesOk_bp0 (x : ((List dWrite) × Bool × Int)) : Par (spec_WritesOk_b0 x) := by
  unfold spec_WritesOk_b0
  exact (par_bif (par_ite (c := 0 ≤ x.2.2 ∧ x.2.2 < (x.1.length : Int)) ((spec_WriteOk_p (rd (Ty.zero tWrite) x.1 x.2.2)).bind fun y3 => (par_bif (par_ret _) (par_bif (par_ite (c := 0 ≤ (IntKind.wrap .i64 (x.2.2 - (1 : Int))) ∧ (IntKind.wrap .i64 (x.2.2 - (1 : Int))) < (x.1.length : Int)) (par_ite (c := 0 ≤ x.2.2 ∧ x.2.2 < (x.1.length : Int)) (par_bif (par_ret _) (par_ret _)) par_none) par_none) (par_ret _)))) par_none) (par_ret _))

def spec_WritesOk_d (a0 : (List dWrite)) (k : Bool → Option Res) : Option Res :=
  loopK spec_WritesOk_b0 Fuel (a0, false, (0 : Int)) (Sum.elim (fun z1 =>
    k z1.2.1) (fun z2 =>
    k (decide ((z2.1.length : Int) ≤ (8 : Int)))))

theorem spec_WritesOk_h : ∃ g : (List dWrite) → (Bool → Option Res) → Option Res, g = spec_WritesOk_d := ⟨_, rfl⟩
def spec_WritesOk_k : (List dWrite) → (Bool → Option Res) → Option Res := Classical.choose spec_WritesOk_h
theorem spec_WritesOk_e : spec_WritesOk_k = spec_WritesOk_d := Classical.choose_spec spec_WritesOk_h

theorem spec_WritesOk_p (a0 : (List dWrite)) : Par (spec_WritesOk_k a0) := by
  rw [spec_WritesOk_e]
  unfold spec_WritesOk_d
  exact ((par_loop spec_WritesOk_bp0 Fuel (a0, false, (0 : Int))).bind2 (fun z1 => (par_ret _)) (fun z2 => (par_ret _)))

def spec_RangeOk_d (a0 : dRange) (k : Bool → Option Res) : Option Res :=
  spec_KeyOk_k a0.1 (fun y1 =>
    bif y1 then
      spec_KeyOk_k a0.2 (fun y2 =>
        bif y2 then
          k ((strLess a0.1 a0.2) || (strEq a0.1 a0.2))
        else
          k false)
    else
      k false)

theorem spec_RangeOk_h : ∃ g : dRange → (Bool → Option Res) → Option Res, g = spec_RangeOk_d := ⟨_, rfl⟩
def spec_RangeOk_k : dRange → (Bool → Option Res) → Option Res := Classical.choose spec_RangeOk_h
theorem spec_RangeOk_e : spec_RangeOk_k = spec_RangeOk_d := Classical.choose_spec spec_RangeOk_h

theorem spec_RangeOk_p (a0 : dRange) : Par (spec_RangeOk_k a0) := by
  rw [spec_RangeOk_e]
  unfold spec_RangeOk_d
  exact ((spec_KeyOk_p a0.1).bind fun y1 => (par_bif ((spec_KeyOk_p a0.2).bind fun y2 => (par_bif (par_ret _) (par_ret _))) (par_ret _)))

def spec_TxnOk_j5000012 (x : q32T) (k : q32T → Option Res) : Option Res :=
    bif (x.2.2.1 != (1 : Int)) then
      k (true, x.2.1, x.2.2.1, x.2.2.2.1, x.2.2.2.2.1, x.2.2.2.2.2.1, x.2.2.2.2.2.2.1, x.2.2.2.2.2.2.2.1, x.2.2.2.2.2.2.2.2)
    else
      k ((!x.2.2.2.2.2.2.2.1), x.2.1, x.2.2.1, x.2.2.2.1, x.2.2.2.2.1, x.2.2.2.2.2.1, x.2.2.2.2.2.2.1, x.2.2.2.2.2.2.2.1, x.2.2.2.2.2.2.2.2)

theorem spec_TxnOk_jp5000012 (x : q32T) : Par (spec_TxnOk_j5000012 x) := by
  unfold spec_TxnOk_j5000012
  exact (par_bif (par_ret _) (par_ret _))

def spec_TxnOk_j5000010 (x : q32T) (k : q32T → Option Res) : Option Res :=
    bif (x.2.2.1 == (2 : Int)) then
      spec_KeyOk_k x.2.2.2.2.2.2.2.2 (fun y14 =>
        bif (!y14) then
          k (false, x.2.1, x.2.2.1, x.2.2.2.1, x.2.2.2.2.1, x.2.2.2.2.2.1, x.2.2.2.2.2.2.1, x.2.2.2.2.2.2.2.1, x.2.2.2.2.2.2.2.2)
        else
          bif (x.2.2.1 != (2 : Int)) then
            bif (!(strEq x.2.2.2.2.2.2.2.2 (⟨#[]⟩ : ByteArray))) then
              k (false, x.2.1, x.2.2.1, x.2.2.2.1, x.2.2.2.2.1, x.2.2.2.2.2.1, x.2.2.2.2.2.2.1, x.2.2.2.2.2.2.2.1, x.2.2.2.2.2.2.2.2)
            else
              spec_TxnOk_j5000012 (x.1, x.2.1, x.2.2.1, x.2.2.2.1, x.2.2.2.2.1, x.2.2.2.2.2.1, x.2.2.2.2.2.2.1, x.2.2.2.2.2.2.2.1, x.2.2.2.2.2.2.2.2) (fun z15 =>
                k (z15.1, z15.2.1, z15.2.2.1, z15.2.2.2.1, z15.2.2.2.2.1, z15.2.2.2.2.2.1, z15.2.2.2.2.2.2.1, z15.2.2.2.2.2.2.2.1, z15.2.2.2.2.2.2.2.2))
          else
            spec_TxnOk_j5000012 (x.1, x.2.1, x.2.2.1, x.2.2.2.1, x.2.2.2.2.1, x.2.2.2.2.2.1, x.2.2.2.2.2.2.1, x.2.2.2.2.2.2.2.1, x.2.2.2.2.2.2.2.2) (fun z16 =>
              k (z16.1, z16.2.1, z16.2.2.1, z16.2.2.2.1, z16.2.2.2.2.1, z16.2.2.2.2.2.1, z16.2.2.2.2.2.2.1, z16.2.2.2.2.2.2.2.1, z16.2.2.2.2.2.2.2.2)))
    else
      bif (x.2.2.1 != (2 : Int)) then
        bif (!(strEq x.2.2.2.2.2.2.2.2 (⟨#[]⟩ : ByteArray))) then
          k (false, x.2.1, x.2.2.1, x.2.2.2.1, x.2.2.2.2.1, x.2.2.2.2.2.1, x.2.2.2.2.2.2.1, x.2.2.2.2.2.2.2.1, x.2.2.2.2.2.2.2.2)
        else
          spec_TxnOk_j5000012 (x.1, x.2.1, x.2.2.1, x.2.2.2.1, x.2.2.2.2.1, x.2.2.2.2.2.1, x.2.2.2.2.2.2.1, x.2.2.2.2.2.2.2.1, x.2.2.2.2.2.2.2.2) (fun z17 =>
            k (z17.1, z17.2.1, z17.2.2.1, z17.2.2.2.1, z17.2.2.2.2.1, z17.2.2.2.2.2.1, z17.2.2.2.2.2.2.1, z17.2.2.2.2.2.2.2.1, z17.2.2.2.2.2.2.2.2))
      else
        spec_TxnOk_j5000012 (x.1, x.2.1, x.2.2.1, x.2.2.2.1, x.2.2.2.2.1, x.2.2.2.2.2.1, x.2.2.2.2.2.2.1, x.2.2.2.2.2.2.2.1, x.2.2.2.2.2.2.2.2) (fun z18 =>
          k (z18.1, z18.2.1, z18.2.2.1, z18.2.2.2.1, z18.2.2.2.2.1, z18.2.2.2.2.2.1, z18.2.2.2.2.2.2.1, z18.2.2.2.2.2.2.2.1, z18.2.2.2.2.2.2.2.2))

theorem spec_TxnOk_jp5000010 (x : q32T) : Par (spec_TxnOk_j5000010 x) := by
  unfold spec_TxnOk_j5000010
  exact (par_bif ((spec_KeyOk_p x.2.2.2.2.2.2.2.2).bind fun y14 => (par_bif (par_ret _) (par_bif (par_bif (par_ret _) ((spec_TxnOk_jp5000012 (x.1, x.2.1, x.2.2.1, x.2.2.2.1, x.2.2.2.2.1, x.2.2.2.2.2.1, x.2.2.2.2.2.2.1, x.2.2.2.2.2.2.2.1, x.2.2.2.2.2.2.2.2)).bind fun z15 => (par_ret _))) ((spec_TxnOk_jp5000012 (x.1, x.2.1, x.2.2.1, x.2.2.2.1, x.2.2.2.2.1, x.2.2.2.2.2.1, x.2.2.2.2.2.2.1, x.2.2.2.2.2.2.2.1, x.2.2.2.2.2.2.2.2)).bind fun z16 => (par_ret _))))) (par_bif (par_bif (par_ret _) ((spec_TxnOk_jp5000012 (x.1, x.2.1, x.2.2.1, x.2.2.2.1, x.2.2.2.2.1, x.2.2.2.2.2.1, x.2.2.2.2.2.2.1, x.2.2.2.2.2.2.2.1, x.2.2.2.2.2.2.2.2)).bind fun z17 => (par_ret _))) ((spec_TxnOk_jp5000012 (x.1, x.2.1, x.2.2.1, x.2.2.2.1, x.2.2.2.2.1, x.2.2.2.2.2.1, x.2.2.2.2.2.2.1, x.2.2.2.2.2.2.2.1, x.2.2.2.2.2.2.2.2)).bind fun z18 => (par_ret _))))

def spec_TxnOk_b0 (x : q33T) (k : q33T ⊕ (q33T ⊕ q33T) → Option Res) : Option Res :=
    bif (decide (x.2.1 < (x.2.2.2.2.2.2.1.length : Int))) then
      if 0 ≤ x.2.1 ∧ x.2.1 < (x.2.2.2.2.2.2.1.length : Int) then
        spec_RangeOk_k (rd (Ty.zero tRange) x.2.2.2.2.2.2.1 x.2.1) (fun y6 =>
          bif (!y6) then
            k (.inr (.inl (false, x.2.1, x.2.2.1, x.2.2.2.1, x.2.2.2.2.1, x.2.2.2.2.2.1, x.2.2.2.2.2.2.1, x.2.2.2.2.2.2.2.1, x.2.2.2.2.2.2.2.2.1, x.2.2.2.2.2.2.2.2.2)))
          else
            k (.inl (x.1, (IntKind.wrap .i64 (x.2.1 + (1 : Int))), x.2.2.1, x.2.2.2.1, x.2.2.2.2.1, x.2.2.2.2.2.1, x.2.2.2.2.2.2.1, x.2.2.2.2.2.2.2.1, x.2.2.2.2.2.2.2.2.1, x.2.2.2.2.2.2.2.2.2)))
      else none
    else
      k (.inr (.inr (x.1, x.2.1, x.2.2.1, x.2.2.2.1, x.2.2.2.2.1, x.2.2.2.2.2.1, x.2.2.2.2.2.2.1, x.2.2.2.2.2.2.2.1, x.2.2.2.2.2.2.2.2.1, x.2.2.2.2.2.2.2.2.2)))

theorem spec_TxnOk_bp0 (x : q33T) : Par (spec_TxnOk_b0 x) := by
  unfold spec_TxnOk_b0
  exact (par_bif (par_ite (c := 0 ≤ x.2.1 ∧ x.2.1 < (x.2.2.2.2.2.2.1.length : Int)) ((spec_RangeOk_p (rd (Ty.zero tRange) x.2.2.2.2.2.2.1 x.2.1)).bind fun y6 => (par_bif (par_ret _) (par_ret _))) par_none) (par_ret _))

def spec_TxnOk_j5000003 (x : q32T) (k : q32T → Option Res) : Option Res :=
    loopK spec_TxnOk_b0 Fuel (x.1, (0 : Int), x.2.1, x.2.2.1, x.2.2.2.1, x.2.2.2.2.1, x.2.2.2.2.2.1, x.2.2.2.2.2.2.1, x.2.2.2.2.2.2.2.1, x.2.2.2.2.2.2.2.2) (Sum.elim (fun z7 =>
      k (z7.1, z7.2.2.1, z7.2.2.2.1, z7.2.2.2.2.1, z7.2.2.2.2.2.1, z7.2.2.2.2.2.2.1, z7.2.2.2.2.2.2.2.1, z7.2.2.2.2.2.2.2.2.1, z7.2.2.2.2.2.2.2.2.2)) (fun z8 =>
      bif (z8.2.2.2.1 == (3 : Int)) then
        spec_l01In_k z8.2.2.2.2.2.1 (IntKind.wrap .i64 (z8.2.2.2.2.1 + (1 : Int))) (9999 : Int) (fun y9 =>
          bif (!y9) then
            k (false, z8.2.2.1, z8.2.2.2.1, z8.2.2.2.2.1, z8.2.2.2.2.2.1, z8.2.2.2.2.2.2.1, z8.2.2.2.2.2.2.2.1, z8.2.2.2.2.2.2.2.2.1, z8.2.2.2.2.2.2.2.2.2)
          else
            bif (z8.2.2.2.1 != (3 : Int)) then
              bif (z8.2.2.2.2.2.1 != (0 : Int)) then
                k (false, z8.2.2.1, z8.2.2.2.1, z8.2.2.2.2.1, z8.2.2.2.2.2.1, z8.2.2.2.2.2.2.1, z8.2.2.2.2.2.2.2.1, z8.2.2.2.2.2.2.2.2.1, z8.2.2.2.2.2.2.2.2.2)
              else
                spec_TxnOk_j5000010 (z8.1, z8.2.2.1, z8.2.2.2.1, z8.2.2.2.2.1, z8.2.2.2.2.2.1, z8.2.2.2.2.2.2.1, z8.2.2.2.2.2.2.2.1, z8.2.2.2.2.2.2.2.2.1, z8.2.2.2.2.2.2.2.2.2) (fun z10 =>
                  k (z10.1, z10.2.1, z10.2.2.1, z10.2.2.2.1, z10.2.2.2.2.1, z10.2.2.2.2.2.1, z10.2.2.2.2.2.2.1, z10.2.2.2.2.2.2.2.1, z10.2.2.2.2.2.2.2.2))
            else
              spec_TxnOk_j5000010 (z8.1, z8.2.2.1, z8.2.2.2.1, z8.2.2.2.2.1, z8.2.2.2.2.2.1, z8.2.2.2.2.2.2.1, z8.2.2.2.2.2.2.2.1, z8.2.2.2.2.2.2.2.2.1, z8.2.2.2.2.2.2.2.2.2) (fun z11 =>
                k (z11.1, z11.2.1, z11.2.2.1, z11.2.2.2.1, z11.2.2.2.2.1, z11.2.2.2.2.2.1, z11.2.2.2.2.2.2.1, z11.2.2.2.2.2.2.2.1, z11.2.2.2.2.2.2.2.2)))
      else
        bif (z8.2.2.2.1 != (3 : Int)) then
          bif (z8.2.2.2.2.2.1 != (0 : Int)) then
            k (false, z8.2.2.1, z8.2.2.2.1, z8.2.2.2.2.1, z8.2.2.2.2.2.1, z8.2.2.2.2.2.2.1, z8.2.2.2.2.2.2.2.1, z8.2.2.2.2.2.2.2.2.1, z8.2.2.2.2.2.2.2.2.2)
          else
            spec_TxnOk_j5000010 (z8.1, z8.2.2.1, z8.2.2.2.1, z8.2.2.2.2.1, z8.2.2.2.2.2.1, z8.2.2.2.2.2.2.1, z8.2.2.2.2.2.2.2.1, z8.2.2.2.2.2.2.2.2.1, z8.2.2.2.2.2.2.2.2.2) (fun z12 =>
              k (z12.1, z12.2.1, z12.2.2.1, z12.2.2.2.1, z12.2.2.2.2.1, z12.2.2.2.2.2.1, z12.2.2.2.2.2.2.1, z12.2.2.2.2.2.2.2.1, z12.2.2.2.2.2.2.2.2))
        else
          spec_TxnOk_j5000010 (z8.1, z8.2.2.1, z8.2.2.2.1, z8.2.2.2.2.1, z8.2.2.2.2.2.1, z8.2.2.2.2.2.2.1, z8.2.2.2.2.2.2.2.1, z8.2.2.2.2.2.2.2.2.1, z8.2.2.2.2.2.2.2.2.2) (fun z13 =>
            k (z13.1, z13.2.1, z13.2.2.1, z13.2.2.2.1, z13.2.2.2.2.1, z13.2.2.2.2.2.1, z13.2.2.2.2.2.2.1, z13.2.2.2.2.2.2.2.1, z13.2.2.2.2.2.2.2.2))))

theorem spec_TxnOk_jp5000003 (x : q32T) : Par (spec_TxnOk_j5000003 x) := by
  unfold spec_TxnOk_j5000003
  exact ((par_loop spec_TxnOk_bp0 Fuel (x.1, (0 : Int), x.2.1, x.2.2.1, x.2.2.2.1, x.2.2.2.2.1, x.2.2.2.2.2.1, x.2.2.2.2.2.2.1, x.2.2.2.2.2.2.2.1, x.2.2.2.2.2.2.2.2)).bind2 (fun z7 => (par_ret _)) (fun z8 => (par_bif ((spec_l01In_p z8.2.2.2.2.2.1 (IntKind.wrap .i64 (z8.2.2.2.2.1 + (1 : Int))) (9999 : Int)).bind fun y9 => (par_bif (par_ret _) (par_bif (par_bif (par_ret _) ((spec_TxnOk_jp5000010 (z8.1, z8.2.2.1, z8.2.2.2.1, z8.2.2.2.2.1, z8.2.2.2.2.2.1, z8.2.2.2.2.2.2.1, z8.2.2.2.2.2.2.2.1, z8.2.2.2.2.2.2.2.2.1, z8.2.2.2.2.2.2.2.2.2)).bind fun z10 => (par_ret _))) ((spec_TxnOk_jp5000010 (z8.1, z8.2.2.1, z8.2.2.2.1, z8.2.2.2.2.1, z8.2.2.2.2.2.1, z8.2.2.2.2.2.2.1, z8.2.2.2.2.2.2.2.1, z8.2.2.2.2.2.2.2.2.1, z8.2.2.2.2.2.2.2.2.2)).bind fun z11 => (par_ret _))))) (par_bif (par_bif (par_ret _) ((spec_TxnOk_jp5000010 (z8.1, z8.2.2.1, z8.2.2.2.1, z8.2.2.2.2.1, z8.2.2.2.2.2.1, z8.2.2.2.2.2.2.1, z8.2.2.2.2.2.2.2.1, z8.2.2.2.2.2.2.2.2.1, z8.2.2.2.2.2.2.2.2.2)).bind fun z12 => (par_ret _))) ((spec_TxnOk_jp5000010 (z8.1, z8.2.2.1, z8.2.2.2.1, z8.2.2.2.2.1, z8.2.2.2.2.2.1, z8.2.2.2.2.2.2.1, z8.2.2.2.2.2.2.2.1, z8.2.2.2.2.2.2.2.2.1, z8.2.2.2.2.2.2.2.2.2)).bind fun z13 => (par_ret _))))))

def spec_TxnOk_d (a0 : dTxn) (k : Bool → Option Res) : Option Res :=
  spec_l01In_k a0.1 (1 : Int) (9999 : Int) (fun y1 =>
    bif (!y1) then
      k false
    else
      spec_l01In_k a0.2.1 (1 : Int) (3 : Int) (fun y2 =>
        bif (!y2) then
          k false
        else
          spec_l01In_k a0.2.2.1 (0 : Int) (9999 : Int) (fun y3 =>
            bif (!y3) then
              k false
            else
              bif (decide ((a0.2.2.2.2.1.length : Int) > (8 : Int))) then
                k false
              else
                spec_WritesOk_k a0.2.2.2.2.2.1 (fun y4 =>
                  bif (!y4) then
                    k false
                  else
                    spec_TxnOk_j5000003 (false, a0.1, a0.2.1, a0.2.2.1, a0.2.2.2.1, a0.2.2.2.2.1, a0.2.2.2.2.2.1, a0.2.2.2.2.2.2.1, a0.2.2.2.2.2.2.2) (fun z5 =>
                      k z5.1)))))

theorem spec_TxnOk_h : ∃ g : dTxn → (Bool → Option Res) → Option Res, g = spec_TxnOk_d := ⟨_, rfl⟩
def spec_TxnOk_k : dTxn → (Bool → Option Res) → Option Res := Classical.choose spec_TxnOk_h
theorem spec_TxnOk_e : spec_TxnOk_k = spec_TxnOk_d := Classical.choose_spec spec_TxnOk_h

theorem spec_TxnOk_p (a0 : dTxn) : Par (spec_TxnOk_k a0) := by
  rw [spec_TxnOk_e]
  unfold spec_TxnOk_d
  exact ((spec_l01In_p a0.1 (1 : Int) (9999 : Int)).bind fun y1 => (par_bif (par_ret _) ((spec_l01In_p a0.2.1 (1 : Int) (3 : Int)).bind fun y2 => (par_bif (par_ret _) ((spec_l01In_p a0.2.2.1 (0 : Int) (9999 : Int)).bind fun y3 => (par_bif (par_ret _) (par_bif (par_ret _) ((spec_WritesOk_p a0.2.2.2.2.2.1).bind fun y4 => (par_bif (par_ret _) ((spec_TxnOk_jp5000003 (false, a0.1, a0.2.1, a0.2.2.1, a0.2.2.2.1, a0.2.2.2.2.1, a0.2.2.2.2.2.1, a0.2.2.2.2.2.2.1, a0.2.2.2.2.2.2.2)).bind fun z5 => (par_ret _)))))))))))

def spec_l01Var_b0 (x : (Int × (List Int))) (k : (Int × (List Int)) ⊕ (Int × (List Int)) → Option Res) : Option Res :=
    bif (decide (x.1 > (127 : Int))) then
      if x.2.length + [(IntKind.wrap .u8 (IntKind.wrap .i64 ((x.1.tmod (128 : Int)) + (128 : Int))))].length ≤ VE.maxLen then
        k (.inl ((IntKind.wrap .i64 (x.1.tdiv (128 : Int))), (x.2 ++ [(IntKind.wrap .u8 (IntKind.wrap .i64 ((x.1.tmod (128 : Int)) + (128 : Int))))])))
      else none
    else
      k (.inr (x.1, x.2))

theorem spec_l01Var_bp0 (x : (Int × (List Int))) : Par (spec_l01Var_b0 x) := by
  unfold spec_l01Var_b0
  exact (par_bif (par_ite (c := x.2.length + [(IntKind.wrap .u8 (IntKind.wrap .i64 ((x.1.tmod (128 : Int)) + (128 : Int))))].length ≤ VE.maxLen) (par_ret _) par_none) (par_ret _))

def spec_l01Var_d (a0 : Int) (k : ByteArray → Option Res) : Option Res :=
  loopK spec_l01Var_b0 Fuel (a0, ([] : List Int)) (fun z1 =>
    if z1.2.length + [(IntKind.wrap .u8 z1.1)].length ≤ VE.maxLen then
      k (bytesOf (z1.2 ++ [(IntKind.wrap .u8 z1.1)]))
    else none)

theorem spec_l01Var_h : ∃ g : Int → (ByteArray → Option Res) → Option Res, g = spec_l01Var_d := ⟨_, rfl⟩
def spec_l01Var_k : Int → (ByteArray → Option Res) → Option Res := Classical.choose spec_l01Var_h
theorem spec_l01Var_e : spec_l01Var_k = spec_l01Var_d := Classical.choose_spec spec_l01Var_h

theorem spec_l01Var_p (a0 : Int) : Par (spec_l01Var_k a0) := by
  rw [spec_l01Var_e]
  unfold spec_l01Var_d
  exact ((par_loop spec_l01Var_bp0 Fuel (a0, ([] : List Int))).bind fun z1 => (par_ite (c := z1.2.length + [(IntKind.wrap .u8 z1.1)].length ≤ VE.maxLen) (par_ret _) par_none))

def spec_l07Short_d (a0 : ByteArray) (k : ByteArray → Option Res) : Option Res :=
  spec_l01Var_k (a0.size : Int) (fun y1 =>
    if y1.size + a0.size ≤ 1099511627776 then
      k (y1 ++ a0)
    else none)

theorem spec_l07Short_h : ∃ g : ByteArray → (ByteArray → Option Res) → Option Res, g = spec_l07Short_d := ⟨_, rfl⟩
def spec_l07Short_k : ByteArray → (ByteArray → Option Res) → Option Res := Classical.choose spec_l07Short_h
theorem spec_l07Short_e : spec_l07Short_k = spec_l07Short_d := Classical.choose_spec spec_l07Short_h

theorem spec_l07Short_p (a0 : ByteArray) : Par (spec_l07Short_k a0) := by
  rw [spec_l07Short_e]
  unfold spec_l07Short_d
  exact ((spec_l01Var_p (a0.size : Int)).bind fun y1 => (par_ite (c := y1.size + a0.size ≤ 1099511627776) (par_ret _) par_none))

def spec_l07Bit_d (a0 : Bool) (k : ByteArray → Option Res) : Option Res :=
  bif a0 then
    k (⟨#[1]⟩ : ByteArray)
  else
    k (⟨#[0]⟩ : ByteArray)

theorem spec_l07Bit_h : ∃ g : Bool → (ByteArray → Option Res) → Option Res, g = spec_l07Bit_d := ⟨_, rfl⟩
def spec_l07Bit_k : Bool → (ByteArray → Option Res) → Option Res := Classical.choose spec_l07Bit_h
theorem spec_l07Bit_e : spec_l07Bit_k = spec_l07Bit_d := Classical.choose_spec spec_l07Bit_h

theorem spec_l07Bit_p (a0 : Bool) : Par (spec_l07Bit_k a0) := by
  rw [spec_l07Bit_e]
  unfold spec_l07Bit_d
  exact (par_bif (par_ret _) (par_ret _))

def spec_TxnText_b0 (x : q35T) (k : q35T ⊕ q35T → Option Res) : Option Res :=
    bif (decide (x.2.1 < (x.2.2.2.2.2.2.1.length : Int))) then
      if 0 ≤ x.2.1 ∧ x.2.1 < (x.2.2.2.2.2.2.1.length : Int) then
        if 0 ≤ x.2.1 ∧ x.2.1 < (x.2.2.2.2.2.2.1.length : Int) then
          spec_l07Short_k ((rd (Ty.zero tRange) x.2.2.2.2.2.2.1 x.2.1).1) (fun y12 =>
            if x.1.size + y12.size ≤ 1099511627776 then
              spec_l07Short_k ((rd (Ty.zero tRange) x.2.2.2.2.2.2.1 x.2.1).2) (fun y13 =>
                if (x.1 ++ y12).size + y13.size ≤ 1099511627776 then
                  k (.inl (((x.1 ++ y12) ++ y13), (IntKind.wrap .i64 (x.2.1 + (1 : Int))), x.2.2.1, x.2.2.2.1, x.2.2.2.2.1, x.2.2.2.2.2.1, x.2.2.2.2.2.2.1, x.2.2.2.2.2.2.2.1, x.2.2.2.2.2.2.2.2.1, x.2.2.2.2.2.2.2.2.2))
                else none)
            else none)
        else none
      else none
    else
      k (.inr (x.1, x.2.1, x.2.2.1, x.2.2.2.1, x.2.2.2.2.1, x.2.2.2.2.2.1, x.2.2.2.2.2.2.1, x.2.2.2.2.2.2.2.1, x.2.2.2.2.2.2.2.2.1, x.2.2.2.2.2.2.2.2.2))

theorem spec_TxnText_bp0 (x : q35T) : Par (spec_TxnText_b0 x) := by
  unfold spec_TxnText_b0
  exact (par_bif (par_ite (c := 0 ≤ x.2.1 ∧ x.2.1 < (x.2.2.2.2.2.2.1.length : Int)) (par_ite (c := 0 ≤ x.2.1 ∧ x.2.1 < (x.2.2.2.2.2.2.1.length : Int)) ((spec_l07Short_p ((rd (Ty.zero tRange) x.2.2.2.2.2.2.1 x.2.1).1)).bind fun y12 => (par_ite (c := x.1.size + y12.size ≤ 1099511627776) ((spec_l07Short_p ((rd (Ty.zero tRange) x.2.2.2.2.2.2.1 x.2.1).2)).bind fun y13 => (par_ite (c := (x.1 ++ y12).size + y13.size ≤ 1099511627776) (par_ret _) par_none)) par_none)) par_none) par_none) (par_ret _))

def spec_TxnText_b2 (x : q35T) (k : q35T ⊕ q35T → Option Res) : Option Res :=
    bif (decide (x.2.1 < (x.2.2.2.2.2.2.2.1.length : Int))) then
      if 0 ≤ x.2.1 ∧ x.2.1 < (x.2.2.2.2.2.2.2.1.length : Int) then
        if 0 ≤ x.2.1 ∧ x.2.1 < (x.2.2.2.2.2.2.2.1.length : Int) then
          if 0 ≤ x.2.1 ∧ x.2.1 < (x.2.2.2.2.2.2.2.1.length : Int) then
            spec_l07Short_k ((rd (Ty.zero tWrite) x.2.2.2.2.2.2.2.1 x.2.1).1) (fun y14 =>
              if x.1.size + y14.size ≤ 1099511627776 then
                spec_l07Short_k ((rd (Ty.zero tWrite) x.2.2.2.2.2.2.2.1 x.2.1).2.1) (fun y15 =>
                  if (x.1 ++ y14).size + y15.size ≤ 1099511627776 then
                    spec_l07Bit_k ((rd (Ty.zero tWrite) x.2.2.2.2.2.2.2.1 x.2.1).2.2) (fun y16 =>
                      if ((x.1 ++ y14) ++ y15).size + y16.size ≤ 1099511627776 then
                        k (.inl ((((x.1 ++ y14) ++ y15) ++ y16), (IntKind.wrap .i64 (x.2.1 + (1 : Int))), x.2.2.1, x.2.2.2.1, x.2.2.2.2.1, x.2.2.2.2.2.1, x.2.2.2.2.2.2.1, x.2.2.2.2.2.2.2.1, x.2.2.2.2.2.2.2.2.1, x.2.2.2.2.2.2.2.2.2))
                      else none)
                  else none)
              else none)
          else none
        else none
      else none
    else
      k (.inr (x.1, x.2.1, x.2.2.1, x.2.2.2.1, x.2.2.2.2.1, x.2.2.2.2.2.1, x.2.2.2.2.2.2.1, x.2.2.2.2.2.2.2.1, x.2.2.2.2.2.2.2.2.1, x.2.2.2.2.2.2.2.2.2))

theorem spec_TxnText_bp2 (x : q35T) : Par (spec_TxnText_b2 x) := by
  unfold spec_TxnText_b2
  exact (par_bif (par_ite (c := 0 ≤ x.2.1 ∧ x.2.1 < (x.2.2.2.2.2.2.2.1.length : Int)) (par_ite (c := 0 ≤ x.2.1 ∧ x.2.1 < (x.2.2.2.2.2.2.2.1.length : Int)) (par_ite (c := 0 ≤ x.2.1 ∧ x.2.1 < (x.2.2.2.2.2.2.2.1.length : Int)) ((spec_l07Short_p ((rd (Ty.zero tWrite) x.2.2.2.2.2.2.2.1 x.2.1).1)).bind fun y14 => (par_ite (c := x.1.size + y14.size ≤ 1099511627776) ((spec_l07Short_p ((rd (Ty.zero tWrite) x.2.2.2.2.2.2.2.1 x.2.1).2.1)).bind fun y15 => (par_ite (c := (x.1 ++ y14).size + y15.size ≤ 1099511627776) ((spec_l07Bit_p ((rd (Ty.zero tWrite) x.2.2.2.2.2.2.2.1 x.2.1).2.2)).bind fun y16 => (par_ite (c := ((x.1 ++ y14) ++ y15).size + y16.size ≤ 1099511627776) (par_ret _) par_none)) par_none)) par_none)) par_none) par_none) par_none) (par_ret _))

def spec_TxnText_d (a0 : dTxn) (k : (ByteArray × Bool) → Option Res) : Option Res :=
  spec_TxnOk_k a0 (fun y1 =>
    bif (!y1) then
      k ((⟨#[]⟩ : ByteArray), false)
    else
      spec_l01Var_k a0.1 (fun y2 =>
        spec_l01Var_k a0.2.1 (fun y3 =>
          if y2.size + y3.size ≤ 1099511627776 then
            spec_l01Var_k a0.2.2.1 (fun y4 =>
              if (y2 ++ y3).size + y4.size ≤ 1099511627776 then
                spec_l01Var_k a0.2.2.2.1 (fun y5 =>
                  if ((y2 ++ y3) ++ y4).size + y5.size ≤ 1099511627776 then
                    spec_l01Var_k (a0.2.2.2.2.1.length : Int) (fun y6 =>
                      if (((y2 ++ y3) ++ y4) ++ y5).size + y6.size ≤ 1099511627776 then
                        loopK spec_TxnText_b0 Fuel (((((y2 ++ y3) ++ y4) ++ y5) ++ y6), (0 : Int), a0.1, a0.2.1, a0.2.2.1, a0.2.2.2.1, a0.2.2.2.2.1, a0.2.2.2.2.2.1, a0.2.2.2.2.2.2.1, a0.2.2.2.2.2.2.2) (fun z7 =>
                          spec_l01Var_k (z7.2.2.2.2.2.2.2.1.length : Int) (fun y8 =>
                            if z7.1.size + y8.size ≤ 1099511627776 then
                              loopK spec_TxnText_b2 Fuel ((z7.1 ++ y8), (0 : Int), z7.2.2.1, z7.2.2.2.1, z7.2.2.2.2.1, z7.2.2.2.2.2.1, z7.2.2.2.2.2.2.1, z7.2.2.2.2.2.2.2.1, z7.2.2.2.2.2.2.2.2.1, z7.2.2.2.2.2.2.2.2.2) (fun z9 =>
                                spec_l07Bit_k z9.2.2.2.2.2.2.2.2.1 (fun y10 =>
                                  if z9.1.size + y10.size ≤ 1099511627776 then
                                    spec_l07Short_k z9.2.2.2.2.2.2.2.2.2 (fun y11 =>
                                      if (z9.1 ++ y10).size + y11.size ≤ 1099511627776 then
                                        k (((z9.1 ++ y10) ++ y11), true)
                                      else none)
                                  else none))
                            else none))
                      else none)
                  else none)
              else none)
          else none)))

theorem spec_TxnText_h : ∃ g : dTxn → ((ByteArray × Bool) → Option Res) → Option Res, g = spec_TxnText_d := ⟨_, rfl⟩
def spec_TxnText_k : dTxn → ((ByteArray × Bool) → Option Res) → Option Res := Classical.choose spec_TxnText_h
theorem spec_TxnText_e : spec_TxnText_k = spec_TxnText_d := Classical.choose_spec spec_TxnText_h

theorem spec_TxnText_p (a0 : dTxn) : Par (spec_TxnText_k a0) := by
  rw [spec_TxnText_e]
  unfold spec_TxnText_d
  exact ((spec_TxnOk_p a0).bind fun y1 => (par_bif (par_ret _) ((spec_l01Var_p a0.1).bind fun y2 => ((spec_l01Var_p a0.2.1).bind fun y3 => (par_ite (c := y2.size + y3.size ≤ 1099511627776) ((spec_l01Var_p a0.2.2.1).bind fun y4 => (par_ite (c := (y2 ++ y3).size + y4.size ≤ 1099511627776) ((spec_l01Var_p a0.2.2.2.1).bind fun y5 => (par_ite (c := ((y2 ++ y3) ++ y4).size + y5.size ≤ 1099511627776) ((spec_l01Var_p (a0.2.2.2.2.1.length : Int)).bind fun y6 => (par_ite (c := (((y2 ++ y3) ++ y4) ++ y5).size + y6.size ≤ 1099511627776) ((par_loop spec_TxnText_bp0 Fuel (((((y2 ++ y3) ++ y4) ++ y5) ++ y6), (0 : Int), a0.1, a0.2.1, a0.2.2.1, a0.2.2.2.1, a0.2.2.2.2.1, a0.2.2.2.2.2.1, a0.2.2.2.2.2.2.1, a0.2.2.2.2.2.2.2)).bind fun z7 => ((spec_l01Var_p (z7.2.2.2.2.2.2.2.1.length : Int)).bind fun y8 => (par_ite (c := z7.1.size + y8.size ≤ 1099511627776) ((par_loop spec_TxnText_bp2 Fuel ((z7.1 ++ y8), (0 : Int), z7.2.2.1, z7.2.2.2.1, z7.2.2.2.2.1, z7.2.2.2.2.2.1, z7.2.2.2.2.2.2.1, z7.2.2.2.2.2.2.2.1, z7.2.2.2.2.2.2.2.2.1, z7.2.2.2.2.2.2.2.2.2)).bind fun z9 => ((spec_l07Bit_p z9.2.2.2.2.2.2.2.2.1).bind fun y10 => (par_ite (c := z9.1.size + y10.size ≤ 1099511627776) ((spec_l07Short_p z9.2.2.2.2.2.2.2.2.2).bind fun y11 => (par_ite (c := (z9.1 ++ y10).size + y11.size ≤ 1099511627776) (par_ret _) par_none)) par_none))) par_none))) par_none)) par_none)) par_none)) par_none)))))

def spec_l12Texts_b0 (x : q9T) (k : q9T ⊕ (q9T ⊕ q9T) → Option Res) : Option Res :=
    bif (decide (x.2.2.2 < (x.1.length : Int))) then
      if 0 ≤ x.2.2.2 ∧ x.2.2.2 < (x.1.length : Int) then
        spec_TxnText_k (rd (Ty.zero tTxn) x.1 x.2.2.2) (fun y3 =>
          if 0 ≤ x.2.2.2 ∧ x.2.2.2 < (x.2.1.length : Int) then
            spec_TxnText_k (rd (Ty.zero tTxn) x.2.1 x.2.2.2) (fun y4 =>
              bif (!(y3.2 == y4.2)) then
                k (.inr (.inl (x.1, x.2.1, false, x.2.2.2)))
              else
                bif (!(strEq y3.1 y4.1)) then
                  k (.inr (.inl (x.1, x.2.1, false, x.2.2.2)))
                else
                  k (.inl (x.1, x.2.1, x.2.2.1, (IntKind.wrap .i64 (x.2.2.2 + (1 : Int))))))
          else none)
      else none
    else
      k (.inr (.inr (x.1, x.2.1, x.2.2.1, x.2.2.2)))

theorem spec_l12Texts_bp0 (x : q9T) : Par (spec_l12Texts_b0 x) := by
  unfold spec_l12Texts_b0
  exact (par_bif (par_ite (c := 0 ≤ x.2.2.2 ∧ x.2.2.2 < (x.1.length : Int)) ((spec_TxnText_p (rd (Ty.zero tTxn) x.1 x.2.2.2)).bind fun y3 => (par_ite (c := 0 ≤ x.2.2.2 ∧ x.2.2.2 < (x.2.1.length : Int)) ((spec_TxnText_p (rd (Ty.zero tTxn) x.2.1 x.2.2.2)).bind fun y4 => (par_bif (par_ret _) (par_bif (par_ret _) (par_ret _)))) par_none)) par_none) (par_ret _))

def spec_l12Texts_d (a0 : (List dTxn)) (a1 : (List dTxn)) (k : Bool → Option Res) : Option Res :=
  bif ((a0.length : Int) != (a1.length : Int)) then
    k false
  else
    loopK spec_l12Texts_b0 Fuel (a0, a1, false, (0 : Int)) (Sum.elim (fun z1 =>
      k z1.2.2.1) (fun _ =>
      k true))

theorem spec_l12Texts_h : ∃ g : (List dTxn) → (List dTxn) → (Bool → Option Res) → Option Res, g = spec_l12Texts_d := ⟨_, rfl⟩
def spec_l12Texts_k : (List dTxn) → (List dTxn) → (Bool → Option Res) → Option Res := Classical.choose spec_l12Texts_h
theorem spec_l12Texts_e : spec_l12Texts_k = spec_l12Texts_d := Classical.choose_spec spec_l12Texts_h

theorem spec_l12Texts_p (a0 : (List dTxn)) (a1 : (List dTxn)) : Par (spec_l12Texts_k a0 a1) := by
  rw [spec_l12Texts_e]
  unfold spec_l12Texts_d
  exact (par_bif (par_ret _) ((par_loop spec_l12Texts_bp0 Fuel (a0, a1, false, (0 : Int))).bind2 (fun z1 => (par_ret _)) (fun z2 => (par_ret _))))

def spec_l06All_d  (k : (ByteArray × ByteArray) → Option Res) : Option Res :=
  k ((⟨#[97]⟩ : ByteArray), (⟨#[122, 122, 122]⟩ : ByteArray))

theorem spec_l06All_h : ∃ g : ((ByteArray × ByteArray) → Option Res) → Option Res, g = spec_l06All_d := ⟨_, rfl⟩
def spec_l06All_k : ((ByteArray × ByteArray) → Option Res) → Option Res := Classical.choose spec_l06All_h
theorem spec_l06All_e : spec_l06All_k = spec_l06All_d := Classical.choose_spec spec_l06All_h

theorem spec_l06All_p  : Par (spec_l06All_k ) := by
  rw [spec_l06All_e]
  unfold spec_l06All_d
  exact (par_ret _)

def spec_InRange_d (a0 : dRange) (a1 : ByteArray) (k : Bool → Option Res) : Option Res :=
  bif (!(strLess a1 a0.1)) then
    k ((strLess a1 a0.2) || (strEq a1 a0.2))
  else
    k false

theorem spec_InRange_h : ∃ g : dRange → ByteArray → (Bool → Option Res) → Option Res, g = spec_InRange_d := ⟨_, rfl⟩
def spec_InRange_k : dRange → ByteArray → (Bool → Option Res) → Option Res := Classical.choose spec_InRange_h
theorem spec_InRange_e : spec_InRange_k = spec_InRange_d := Classical.choose_spec spec_InRange_h

theorem spec_InRange_p (a0 : dRange) (a1 : ByteArray) : Par (spec_InRange_k a0 a1) := by
  rw [spec_InRange_e]
  unfold spec_InRange_d
  exact (par_bif (par_ret _) (par_ret _))

def spec_l06Keys_b2 (x : q20T) (k : q20T ⊕ q20T → Option Res) : Option Res :=
    bif (decide (x.2.2.2.1 < (x.2.2.2.2.2.2.1.length : Int))) then
      if 0 ≤ x.2.2.2.1 ∧ x.2.2.2.1 < (x.2.2.2.2.2.2.1.length : Int) then
        bif (strLess (x.2.2.2.2.2.2.1.getD x.2.2.2.1.toNat (Ty.zero .str)) x.2.2.1) then
          if 0 ≤ x.2.2.2.1 ∧ x.2.2.2.1 < (x.2.2.2.2.2.2.1.length : Int) then
            if x.2.2.2.2.2.2.2.length + [(x.2.2.2.2.2.2.1.getD x.2.2.2.1.toNat (Ty.zero .str))].length ≤ VE.maxLen then
              k (.inl (x.1, x.2.1, x.2.2.1, (IntKind.wrap .i64 (x.2.2.2.1 + (1 : Int))), x.2.2.2.2.1, x.2.2.2.2.2.1, x.2.2.2.2.2.2.1, (x.2.2.2.2.2.2.2 ++ [(x.2.2.2.2.2.2.1.getD x.2.2.2.1.toNat (Ty.zero .str))])))
            else none
          else none
        else
          k (.inl (x.1, x.2.1, x.2.2.1, (IntKind.wrap .i64 (x.2.2.2.1 + (1 : Int))), x.2.2.2.2.1, x.2.2.2.2.2.1, x.2.2.2.2.2.2.1, x.2.2.2.2.2.2.2))
      else none
    else
      k (.inr (x.1, x.2.1, x.2.2.1, x.2.2.2.1, x.2.2.2.2.1, x.2.2.2.2.2.1, x.2.2.2.2.2.2.1, x.2.2.2.2.2.2.2))

theorem spec_l06Keys_bp2 (x : q20T) : Par (spec_l06Keys_b2 x) := by
  unfold spec_l06Keys_b2
  exact (par_bif (par_ite (c := 0 ≤ x.2.2.2.1 ∧ x.2.2.2.1 < (x.2.2.2.2.2.2.1.length : Int)) (par_bif (par_ite (c := 0 ≤ x.2.2.2.1 ∧ x.2.2.2.1 < (x.2.2.2.2.2.2.1.length : Int)) (par_ite (c := x.2.2.2.2.2.2.2.length + [(x.2.2.2.2.2.2.1.getD x.2.2.2.1.toNat (Ty.zero .str))].length ≤ VE.maxLen) (par_ret _) par_none) par_none) (par_ret _)) par_none) (par_ret _))

def spec_l06Keys_b4 (x : q20T) (k : q20T ⊕ q20T → Option Res) : Option Res :=
    bif (decide (x.2.2.2.1 < (x.2.2.2.2.2.2.1.length : Int))) then
      if 0 ≤ x.2.2.2.1 ∧ x.2.2.2.1 < (x.2.2.2.2.2.2.1.length : Int) then
        bif (!((strLess (x.2.2.2.2.2.2.1.getD x.2.2.2.1.toNat (Ty.zero .str)) x.2.2.1) || (strEq (x.2.2.2.2.2.2.1.getD x.2.2.2.1.toNat (Ty.zero .str)) x.2.2.1))) then
          if 0 ≤ x.2.2.2.1 ∧ x.2.2.2.1 < (x.2.2.2.2.2.2.1.length : Int) then
            if x.2.2.2.2.2.2.2.length + [(x.2.2.2.2.2.2.1.getD x.2.2.2.1.toNat (Ty.zero .str))].length ≤ VE.maxLen then
              k (.inl (x.1, x.2.1, x.2.2.1, (IntKind.wrap .i64 (x.2.2.2.1 + (1 : Int))), x.2.2.2.2.1, x.2.2.2.2.2.1, x.2.2.2.2.2.2.1, (x.2.2.2.2.2.2.2 ++ [(x.2.2.2.2.2.2.1.getD x.2.2.2.1.toNat (Ty.zero .str))])))
            else none
          else none
        else
          k (.inl (x.1, x.2.1, x.2.2.1, (IntKind.wrap .i64 (x.2.2.2.1 + (1 : Int))), x.2.2.2.2.1, x.2.2.2.2.2.1, x.2.2.2.2.2.2.1, x.2.2.2.2.2.2.2))
      else none
    else
      k (.inr (x.1, x.2.1, x.2.2.1, x.2.2.2.1, x.2.2.2.2.1, x.2.2.2.2.2.1, x.2.2.2.2.2.2.1, x.2.2.2.2.2.2.2))

theorem spec_l06Keys_bp4 (x : q20T) : Par (spec_l06Keys_b4 x) := by
  unfold spec_l06Keys_b4
  exact (par_bif (par_ite (c := 0 ≤ x.2.2.2.1 ∧ x.2.2.2.1 < (x.2.2.2.2.2.2.1.length : Int)) (par_bif (par_ite (c := 0 ≤ x.2.2.2.1 ∧ x.2.2.2.1 < (x.2.2.2.2.2.2.1.length : Int)) (par_ite (c := x.2.2.2.2.2.2.2.length + [(x.2.2.2.2.2.2.1.getD x.2.2.2.1.toNat (Ty.zero .str))].length ≤ VE.maxLen) (par_ret _) par_none) par_none) (par_ret _)) par_none) (par_ret _))

def spec_l06Keys_b0 (x : q19T) (k : q19T ⊕ q19T → Option Res) : Option Res :=
    bif (decide (x.2.1 < (x.1.length : Int))) then
      if 0 ≤ x.2.1 ∧ x.2.1 < (x.1.length : Int) then
        spec_InRange_k (x.2.2.1, x.2.2.2.1) ((rd (Ty.zero tVersion) x.1 x.2.1).1) (fun y2 =>
          bif (!y2) then
            k (.inl (x.1, (IntKind.wrap .i64 (x.2.1 + (1 : Int))), x.2.2.1, x.2.2.2.1, x.2.2.2.2))
          else
            loopK spec_l06Keys_b2 Fuel (x.1, x.2.1, (rd (Ty.zero tVersion) x.1 x.2.1).1, (0 : Int), x.2.2.1, x.2.2.2.1, x.2.2.2.2, ([] : List ByteArray)) (fun z3 =>
              if z3.2.2.2.2.2.2.2.length + [z3.2.2.1].length ≤ VE.maxLen then
                loopK spec_l06Keys_b4 Fuel (z3.1, z3.2.1, z3.2.2.1, (0 : Int), z3.2.2.2.2.1, z3.2.2.2.2.2.1, z3.2.2.2.2.2.2.1, (z3.2.2.2.2.2.2.2 ++ [z3.2.2.1])) (fun z4 =>
                  k (.inl (z4.1, (IntKind.wrap .i64 (z4.2.1 + (1 : Int))), z4.2.2.2.2.1, z4.2.2.2.2.2.1, z4.2.2.2.2.2.2.2)))
              else none))
      else none
    else
      k (.inr (x.1, x.2.1, x.2.2.1, x.2.2.2.1, x.2.2.2.2))

theorem spec_l06Keys_bp0 (x : q19T) : Par (spec_l06Keys_b0 x) := by
  unfold spec_l06Keys_b0
  exact (par_bif (par_ite (c := 0 ≤ x.2.1 ∧ x.2.1 < (x.1.length : Int)) ((spec_InRange_p (x.2.2.1, x.2.2.2.1) ((rd (Ty.zero tVersion) x.1 x.2.1).1)).bind fun y2 => (par_bif (par_ret _) ((par_loop spec_l06Keys_bp2 Fuel (x.1, x.2.1, (rd (Ty.zero tVersion) x.1 x.2.1).1, (0 : Int), x.2.2.1, x.2.2.2.1, x.2.2.2.2, ([] : List ByteArray))).bind fun z3 => (par_ite (c := z3.2.2.2.2.2.2.2.length + [z3.2.2.1].length ≤ VE.maxLen) ((par_loop spec_l06Keys_bp4 Fuel (z3.1, z3.2.1, z3.2.2.1, (0 : Int), z3.2.2.2.2.1, z3.2.2.2.2.2.1, z3.2.2.2.2.2.2.1, (z3.2.2.2.2.2.2.2 ++ [z3.2.2.1]))).bind fun z4 => (par_ret _)) par_none)))) par_none) (par_ret _))

def spec_l06Keys_d (a0 : (List dVersion)) (a1 : dRange) (k : (List ByteArray) → Option Res) : Option Res :=
  loopK spec_l06Keys_b0 Fuel (a0, (0 : Int), a1.1, a1.2, ([] : List ByteArray)) (fun z1 =>
    k z1.2.2.2.2)

theorem spec_l06Keys_h : ∃ g : (List dVersion) → dRange → ((List ByteArray) → Option Res) → Option Res, g = spec_l06Keys_d := ⟨_, rfl⟩
def spec_l06Keys_k : (List dVersion) → dRange → ((List ByteArray) → Option Res) → Option Res := Classical.choose spec_l06Keys_h
theorem spec_l06Keys_e : spec_l06Keys_k = spec_l06Keys_d := Classical.choose_spec spec_l06Keys_h

theorem spec_l06Keys_p (a0 : (List dVersion)) (a1 : dRange) : Par (spec_l06Keys_k a0 a1) := by
  rw [spec_l06Keys_e]
  unfold spec_l06Keys_d
  exact ((par_loop spec_l06Keys_bp0 Fuel (a0, (0 : Int), a1.1, a1.2, ([] : List ByteArray))).bind fun z1 => (par_ret _))

def spec_l06At_b0 (x : q17T) (k : q17T ⊕ q17T → Option Res) : Option Res :=
    bif (decide (x.2.2.2.2 < (x.1.length : Int))) then
      if 0 ≤ x.2.2.2.2 ∧ x.2.2.2.2 < (x.1.length : Int) then
        bif (strEq ((rd (Ty.zero tVersion) x.1 x.2.2.2.2).1) x.2.1) then
          if 0 ≤ x.2.2.2.2 ∧ x.2.2.2.2 < (x.1.length : Int) then
            bif (decide ((rd (Ty.zero tVersion) x.1 x.2.2.2.2).2.2.2 ≤ x.2.2.1)) then
              bif (decide (x.2.2.2.1 < (0 : Int))) then
                k (.inl (x.1, x.2.1, x.2.2.1, x.2.2.2.2, (IntKind.wrap .i64 (x.2.2.2.2 + (1 : Int)))))
              else
                if 0 ≤ x.2.2.2.2 ∧ x.2.2.2.2 < (x.1.length : Int) then
                  if 0 ≤ x.2.2.2.1 ∧ x.2.2.2.1 < (x.1.length : Int) then
                    bif (decide ((rd (Ty.zero tVersion) x.1 x.2.2.2.2).2.2.2 > (rd (Ty.zero tVersion) x.1 x.2.2.2.1).2.2.2)) then
                      k (.inl (x.1, x.2.1, x.2.2.1, x.2.2.2.2, (IntKind.wrap .i64 (x.2.2.2.2 + (1 : Int)))))
                    else
                      k (.inl (x.1, x.2.1, x.2.2.1, x.2.2.2.1, (IntKind.wrap .i64 (x.2.2.2.2 + (1 : Int)))))
                  else none
                else none
            else
              k (.inl (x.1, x.2.1, x.2.2.1, x.2.2.2.1, (IntKind.wrap .i64 (x.2.2.2.2 + (1 : Int)))))
          else none
        else
          k (.inl (x.1, x.2.1, x.2.2.1, x.2.2.2.1, (IntKind.wrap .i64 (x.2.2.2.2 + (1 : Int)))))
      else none
    else
      k (.inr (x.1, x.2.1, x.2.2.1, x.2.2.2.1, x.2.2.2.2))

theorem spec_l06At_bp0 (x : q17T) : Par (spec_l06At_b0 x) := by
  unfold spec_l06At_b0
  exact (par_bif (par_ite (c := 0 ≤ x.2.2.2.2 ∧ x.2.2.2.2 < (x.1.length : Int)) (par_bif (par_ite (c := 0 ≤ x.2.2.2.2 ∧ x.2.2.2.2 < (x.1.length : Int)) (par_bif (par_bif (par_ret _) (par_ite (c := 0 ≤ x.2.2.2.2 ∧ x.2.2.2.2 < (x.1.length : Int)) (par_ite (c := 0 ≤ x.2.2.2.1 ∧ x.2.2.2.1 < (x.1.length : Int)) (par_bif (par_ret _) (par_ret _)) par_none) par_none)) (par_ret _)) par_none) (par_ret _)) par_none) (par_ret _))

def spec_l06At_d (a0 : (List dVersion)) (a1 : ByteArray) (a2 : Int) (k : Int → Option Res) : Option Res :=
  loopK spec_l06At_b0 Fuel (a0, a1, a2, (-1 : Int), (0 : Int)) (fun z1 =>
    k z1.2.2.2.1)

theorem spec_l06At_h : ∃ g : (List dVersion) → ByteArray → Int → (Int → Option Res) → Option Res, g = spec_l06At_d := ⟨_, rfl⟩
def spec_l06At_k : (List dVersion) → ByteArray → Int → (Int → Option Res) → Option Res := Classical.choose spec_l06At_h
theorem spec_l06At_e : spec_l06At_k = spec_l06At_d := Classical.choose_spec spec_l06At_h

theorem spec_l06At_p (a0 : (List dVersion)) (a1 : ByteArray) (a2 : Int) : Par (spec_l06At_k a0 a1 a2) := by
  rw [spec_l06At_e]
  unfold spec_l06At_d
  exact ((par_loop spec_l06At_bp0 Fuel (a0, a1, a2, (-1 : Int), (0 : Int))).bind fun z1 => (par_ret _))

def spec_SeenAt_d (a0 : (List dVersion)) (a1 : ByteArray) (a2 : Int) (k : (ByteArray × Bool) → Option Res) : Option Res :=
  spec_l06At_k a0 a1 a2 (fun y1 =>
    bif (decide (y1 < (0 : Int))) then
      k ((⟨#[]⟩ : ByteArray), false)
    else
      if 0 ≤ y1 ∧ y1 < (a0.length : Int) then
        bif (rd (Ty.zero tVersion) a0 y1).2.2.1 then
          k ((⟨#[]⟩ : ByteArray), false)
        else
          if 0 ≤ y1 ∧ y1 < (a0.length : Int) then
            k ((rd (Ty.zero tVersion) a0 y1).2.1, true)
          else none
      else none)

theorem spec_SeenAt_h : ∃ g : (List dVersion) → ByteArray → Int → ((ByteArray × Bool) → Option Res) → Option Res, g = spec_SeenAt_d := ⟨_, rfl⟩
def spec_SeenAt_k : (List dVersion) → ByteArray → Int → ((ByteArray × Bool) → Option Res) → Option Res := Classical.choose spec_SeenAt_h
theorem spec_SeenAt_e : spec_SeenAt_k = spec_SeenAt_d := Classical.choose_spec spec_SeenAt_h

theorem spec_SeenAt_p (a0 : (List dVersion)) (a1 : ByteArray) (a2 : Int) : Par (spec_SeenAt_k a0 a1 a2) := by
  rw [spec_SeenAt_e]
  unfold spec_SeenAt_d
  exact ((spec_l06At_p a0 a1 a2).bind fun y1 => (par_bif (par_ret _) (par_ite (c := 0 ≤ y1 ∧ y1 < (a0.length : Int)) (par_bif (par_ret _) (par_ite (c := 0 ≤ y1 ∧ y1 < (a0.length : Int)) (par_ret _) par_none)) par_none)))

def spec_ScanAt_b0 (x : q22T) (k : q22T ⊕ q22T → Option Res) : Option Res :=
    bif (decide (x.2.2.1 < (x.2.2.2.2.length : Int))) then
      if 0 ≤ x.2.2.1 ∧ x.2.2.1 < (x.2.2.2.2.length : Int) then
        spec_SeenAt_k x.1 (x.2.2.2.2.getD x.2.2.1.toNat (Ty.zero .str)) x.2.1 (fun y3 =>
          bif y3.2 then
            if 0 ≤ x.2.2.1 ∧ x.2.2.1 < (x.2.2.2.2.length : Int) then
              if x.2.2.2.1.length + [((x.2.2.2.2.getD x.2.2.1.toNat (Ty.zero .str)), y3.1)].length ≤ VE.maxLen then
                k (.inl (x.1, x.2.1, (IntKind.wrap .i64 (x.2.2.1 + (1 : Int))), (x.2.2.2.1 ++ [((x.2.2.2.2.getD x.2.2.1.toNat (Ty.zero .str)), y3.1)]), x.2.2.2.2))
              else none
            else none
          else
            k (.inl (x.1, x.2.1, (IntKind.wrap .i64 (x.2.2.1 + (1 : Int))), x.2.2.2.1, x.2.2.2.2)))
      else none
    else
      k (.inr (x.1, x.2.1, x.2.2.1, x.2.2.2.1, x.2.2.2.2))

theorem spec_ScanAt_bp0 (x : q22T) : Par (spec_ScanAt_b0 x) := by
  unfold spec_ScanAt_b0
  exact (par_bif (par_ite (c := 0 ≤ x.2.2.1 ∧ x.2.2.1 < (x.2.2.2.2.length : Int)) ((spec_SeenAt_p x.1 (x.2.2.2.2.getD x.2.2.1.toNat (Ty.zero .str)) x.2.1).bind fun y3 => (par_bif (par_ite (c := 0 ≤ x.2.2.1 ∧ x.2.2.1 < (x.2.2.2.2.length : Int)) (par_ite (c := x.2.2.2.1.length + [((x.2.2.2.2.getD x.2.2.1.toNat (Ty.zero .str)), y3.1)].length ≤ VE.maxLen) (par_ret _) par_none) par_none) (par_ret _))) par_none) (par_ret _))

def spec_ScanAt_d (a0 : (List dVersion)) (a1 : dRange) (a2 : Int) (k : (List dRange) → Option Res) : Option Res :=
  spec_l06Keys_k a0 a1 (fun y1 =>
    loopK spec_ScanAt_b0 Fuel (a0, a2, (0 : Int), ([] : List dRange), y1) (fun z2 =>
      k z2.2.2.2.1))

theorem spec_ScanAt_h : ∃ g : (List dVersion) → dRange → Int → ((List dRange) → Option Res) → Option Res, g = spec_ScanAt_d := ⟨_, rfl⟩
def spec_ScanAt_k : (List dVersion) → dRange → Int → ((List dRange) → Option Res) → Option Res := Classical.choose spec_ScanAt_h
theorem spec_ScanAt_e : spec_ScanAt_k = spec_ScanAt_d := Classical.choose_spec spec_ScanAt_h

theorem spec_ScanAt_p (a0 : (List dVersion)) (a1 : dRange) (a2 : Int) : Par (spec_ScanAt_k a0 a1 a2) := by
  rw [spec_ScanAt_e]
  unfold spec_ScanAt_d
  exact ((spec_l06Keys_p a0 a1).bind fun y1 => ((par_loop spec_ScanAt_bp0 Fuel (a0, a2, (0 : Int), ([] : List dRange), y1)).bind fun z2 => (par_ret _)))

def spec_l06Pairs_b0 (x : q5T) (k : q5T ⊕ (q5T ⊕ q5T) → Option Res) : Option Res :=
    bif (decide (x.2.2.2 < (x.1.length : Int))) then
      if 0 ≤ x.2.2.2 ∧ x.2.2.2 < (x.1.length : Int) then
        if 0 ≤ x.2.2.2 ∧ x.2.2.2 < (x.2.1.length : Int) then
          bif (!(Ty.eqB tRange (rd (Ty.zero tRange) x.1 x.2.2.2) (rd (Ty.zero tRange) x.2.1 x.2.2.2))) then
            k (.inr (.inl (x.1, x.2.1, false, x.2.2.2)))
          else
            k (.inl (x.1, x.2.1, x.2.2.1, (IntKind.wrap .i64 (x.2.2.2 + (1 : Int)))))
        else none
      else none
    else
      k (.inr (.inr (x.1, x.2.1, x.2.2.1, x.2.2.2)))

theorem spec_l06Pairs_bp0 (x : q5T) : Par (spec_l06Pairs_b0 x) := by
  unfold spec_l06Pairs_b0
  exact (par_bif (par_ite (c := 0 ≤ x.2.2.2 ∧ x.2.2.2 < (x.1.length : Int)) (par_ite (c := 0 ≤ x.2.2.2 ∧ x.2.2.2 < (x.2.1.length : Int)) (par_bif (par_ret _) (par_ret _)) par_none) par_none) (par_ret _))

def spec_l06Pairs_d (a0 : (List dRange)) (a1 : (List dRange)) (k : Bool → Option Res) : Option Res :=
  bif ((a0.length : Int) != (a1.length : Int)) then
    k false
  else
    loopK spec_l06Pairs_b0 Fuel (a0, a1, false, (0 : Int)) (Sum.elim (fun z1 =>
      k z1.2.2.1) (fun _ =>
      k true))

theorem spec_l06Pairs_h : ∃ g : (List dRange) → (List dRange) → (Bool → Option Res) → Option Res, g = spec_l06Pairs_d := ⟨_, rfl⟩
def spec_l06Pairs_k : (List dRange) → (List dRange) → (Bool → Option Res) → Option Res := Classical.choose spec_l06Pairs_h
theorem spec_l06Pairs_e : spec_l06Pairs_k = spec_l06Pairs_d := Classical.choose_spec spec_l06Pairs_h

theorem spec_l06Pairs_p (a0 : (List dRange)) (a1 : (List dRange)) : Par (spec_l06Pairs_k a0 a1) := by
  rw [spec_l06Pairs_e]
  unfold spec_l06Pairs_d
  exact (par_bif (par_ret _) ((par_loop spec_l06Pairs_bp0 Fuel (a0, a1, false, (0 : Int))).bind2 (fun z1 => (par_ret _)) (fun z2 => (par_ret _))))

def spec_SameFrom_j5000011 (x : q15T) (k : (q15T ⊕ q15T) → Option Res) : Option Res :=
    bif (decide (x.2.2.2.2.2.1 > x.2.2.1)) then
      spec_ScanAt_k x.1 x.2.2.2.2.2.2 x.2.2.2.2.2.1 (fun y11 =>
        spec_ScanAt_k x.2.1 x.2.2.2.2.2.2 x.2.2.2.2.2.1 (fun y12 =>
          spec_l06Pairs_k y11 y12 (fun y13 =>
            bif (!y13) then
              k (.inl (x.1, x.2.1, x.2.2.1, false, x.2.2.2.2.1, x.2.2.2.2.2.1, x.2.2.2.2.2.2.1, x.2.2.2.2.2.2.2))
            else
              k (.inr (x.1, x.2.1, x.2.2.1, x.2.2.2.1, x.2.2.2.2.1, x.2.2.2.2.2.1, x.2.2.2.2.2.2.1, x.2.2.2.2.2.2.2)))))
    else
      k (.inr (x.1, x.2.1, x.2.2.1, x.2.2.2.1, x.2.2.2.2.1, x.2.2.2.2.2.1, x.2.2.2.2.2.2.1, x.2.2.2.2.2.2.2))

theorem spec_SameFrom_jp5000011 (x : q15T) : Par (spec_SameFrom_j5000011 x) := by
  unfold spec_SameFrom_j5000011
  exact (par_bif ((spec_ScanAt_p x.1 x.2.2.2.2.2.2 x.2.2.2.2.2.1).bind fun y11 => ((spec_ScanAt_p x.2.1 x.2.2.2.2.2.2 x.2.2.2.2.2.1).bind fun y12 => ((spec_l06Pairs_p y11 y12).bind fun y13 => (par_bif (par_ret _) (par_ret _))))) (par_ret _))

def spec_SameFrom_b0 (x : q14T) (k : q14T ⊕ (q14T ⊕ q14T) → Option Res) : Option Res :=
    bif (decide (x.2.2.2.2.1 < (IntKind.wrap .i64 ((x.1.length : Int) + (x.2.1.length : Int))))) then
      bif (decide (x.2.2.2.2.1 < (x.1.length : Int))) then
        if 0 ≤ x.2.2.2.2.1 ∧ x.2.2.2.2.1 < (x.1.length : Int) then
          spec_SameFrom_j5000011 (x.1, x.2.1, x.2.2.1, x.2.2.2.1, x.2.2.2.2.1, (rd (Ty.zero tVersion) x.1 x.2.2.2.2.1).2.2.2, x.2.2.2.2.2.1, x.2.2.2.2.2.2) (Sum.elim (fun z7 =>
            k (.inr (.inr (z7.1, z7.2.1, z7.2.2.1, z7.2.2.2.1, z7.2.2.2.2.1, z7.2.2.2.2.2.2.1, z7.2.2.2.2.2.2.2)))) (fun z8 =>
            k (.inl (z8.1, z8.2.1, z8.2.2.1, z8.2.2.2.1, (IntKind.wrap .i64 (z8.2.2.2.2.1 + (1 : Int))), z8.2.2.2.2.2.2.1, z8.2.2.2.2.2.2.2))))
        else none
      else
        if 0 ≤ (IntKind.wrap .i64 (x.2.2.2.2.1 - (x.1.length : Int))) ∧ (IntKind.wrap .i64 (x.2.2.2.2.1 - (x.1.length : Int))) < (x.2.1.length : Int) then
          spec_SameFrom_j5000011 (x.1, x.2.1, x.2.2.1, x.2.2.2.1, x.2.2.2.2.1, (rd (Ty.zero tVersion) x.2.1 (IntKind.wrap .i64 (x.2.2.2.2.1 - (x.1.length : Int)))).2.2.2, x.2.2.2.2.2.1, x.2.2.2.2.2.2) (Sum.elim (fun z9 =>
            k (.inr (.inr (z9.1, z9.2.1, z9.2.2.1, z9.2.2.2.1, z9.2.2.2.2.1, z9.2.2.2.2.2.2.1, z9.2.2.2.2.2.2.2)))) (fun z10 =>
            k (.inl (z10.1, z10.2.1, z10.2.2.1, z10.2.2.2.1, (IntKind.wrap .i64 (z10.2.2.2.2.1 + (1 : Int))), z10.2.2.2.2.2.2.1, z10.2.2.2.2.2.2.2))))
        else none
    else
      k (.inr (.inl (x.1, x.2.1, x.2.2.1, x.2.2.2.1, x.2.2.2.2.1, x.2.2.2.2.2.1, x.2.2.2.2.2.2)))

theorem spec_SameFrom_bp0 (x : q14T) : Par (spec_SameFrom_b0 x) := by
  unfold spec_SameFrom_b0
  exact (par_bif (par_bif (par_ite (c := 0 ≤ x.2.2.2.2.1 ∧ x.2.2.2.2.1 < (x.1.length : Int)) ((spec_SameFrom_jp5000011 (x.1, x.2.1, x.2.2.1, x.2.2.2.1, x.2.2.2.2.1, (rd (Ty.zero tVersion) x.1 x.2.2.2.2.1).2.2.2, x.2.2.2.2.2.1, x.2.2.2.2.2.2)).bind2 (fun z7 => (par_ret _)) (fun z8 => (par_ret _))) par_none) (par_ite (c := 0 ≤ (IntKind.wrap .i64 (x.2.2.2.2.1 - (x.1.length : Int))) ∧ (IntKind.wrap .i64 (x.2.2.2.2.1 - (x.1.length : Int))) < (x.2.1.length : Int)) ((spec_SameFrom_jp5000011 (x.1, x.2.1, x.2.2.1, x.2.2.2.1, x.2.2.2.2.1, (rd (Ty.zero tVersion) x.2.1 (IntKind.wrap .i64 (x.2.2.2.2.1 - (x.1.length : Int)))).2.2.2, x.2.2.2.2.2.1, x.2.2.2.2.2.2)).bind2 (fun z9 => (par_ret _)) (fun z10 => (par_ret _))) par_none)) (par_ret _))

def spec_SameFrom_d (a0 : (List dVersion)) (a1 : (List dVersion)) (a2 : Int) (k : Bool → Option Res) : Option Res :=
  spec_l06All_k  (fun y1 =>
    spec_ScanAt_k a0 y1 a2 (fun y2 =>
      spec_ScanAt_k a1 y1 a2 (fun y3 =>
        spec_l06Pairs_k y2 y3 (fun y4 =>
          bif (!y4) then
            k false
          else
            loopK spec_SameFrom_b0 Fuel (a0, a1, a2, false, (0 : Int), y1.1, y1.2) (Sum.elim (fun _ =>
              k true) (fun z6 =>
              k z6.2.2.2.1))))))

theorem spec_SameFrom_h : ∃ g : (List dVersion) → (List dVersion) → Int → (Bool → Option Res) → Option Res, g = spec_SameFrom_d := ⟨_, rfl⟩
def spec_SameFrom_k : (List dVersion) → (List dVersion) → Int → (Bool → Option Res) → Option Res := Classical.choose spec_SameFrom_h
theorem spec_SameFrom_e : spec_SameFrom_k = spec_SameFrom_d := Classical.choose_spec spec_SameFrom_h

theorem spec_SameFrom_p (a0 : (List dVersion)) (a1 : (List dVersion)) (a2 : Int) : Par (spec_SameFrom_k a0 a1 a2) := by
  rw [spec_SameFrom_e]
  unfold spec_SameFrom_d
  exact ((spec_l06All_p ).bind fun y1 => ((spec_ScanAt_p a0 y1 a2).bind fun y2 => ((spec_ScanAt_p a1 y1 a2).bind fun y3 => ((spec_l06Pairs_p y2 y3).bind fun y4 => (par_bif (par_ret _) ((par_loop spec_SameFrom_bp0 Fuel (a0, a1, a2, false, (0 : Int), y1.1, y1.2)).bind2 (fun z5 => (par_ret _)) (fun z6 => (par_ret _))))))))

def spec_LikeBase_d (a0 : dBase) (a1 : dBase) (k : Bool → Option Res) : Option Res :=
  bif (a0.2.2.2.1 == a1.2.2.2.1) then
    spec_l12Texts_k a0.2.1 a1.2.1 (fun y1 =>
      bif y1 then
        spec_l12Texts_k a0.2.2.1 a1.2.2.1 (fun y2 =>
          bif y2 then
            spec_SameFrom_k a0.1 a1.1 a0.2.2.2.1 (fun y3 =>
              k y3)
          else
            k false)
      else
        k false)
  else
    k false

theorem spec_LikeBase_h : ∃ g : dBase → dBase → (Bool → Option Res) → Option Res, g = spec_LikeBase_d := ⟨_, rfl⟩
def spec_LikeBase_k : dBase → dBase → (Bool → Option Res) → Option Res := Classical.choose spec_LikeBase_h
theorem spec_LikeBase_e : spec_LikeBase_k = spec_LikeBase_d := Classical.choose_spec spec_LikeBase_h

theorem spec_LikeBase_p (a0 : dBase) (a1 : dBase) : Par (spec_LikeBase_k a0 a1) := by
  rw [spec_LikeBase_e]
  unfold spec_LikeBase_d
  exact (par_bif ((spec_l12Texts_p a0.2.1 a1.2.1).bind fun y1 => (par_bif ((spec_l12Texts_p a0.2.2.1 a1.2.2.1).bind fun y2 => (par_bif ((spec_SameFrom_p a0.1 a1.1 a0.2.2.2.1).bind fun y3 => (par_ret _)) (par_ret _))) (par_ret _))) (par_ret _))

def impl_within_d (a0 : Int) (a1 : Int) (a2 : Int) (k : Bool → Option Res) : Option Res :=
  bif (decide (a0 ≥ a1)) then
    k (decide (a0 ≤ a2))
  else
    k false

theorem impl_within_h : ∃ g : Int → Int → Int → (Bool → Option Res) → Option Res, g = impl_within_d := ⟨_, rfl⟩
def impl_within_k : Int → Int → Int → (Bool → Option Res) → Option Res := Classical.choose impl_within_h
theorem impl_within_e : impl_within_k = impl_within_d := Classical.choose_spec impl_within_h

theorem impl_within_p (a0 : Int) (a1 : Int) (a2 : Int) : Par (impl_within_k a0 a1 a2) := by
  rw [impl_within_e]
  unfold impl_within_d
  exact (par_bif (par_ret _) (par_ret _))

def impl_KeyOk_b0 (x : (ByteArray × Bool × Int)) (k : (ByteArray × Bool × Int) ⊕ ((ByteArray × Bool × Int) ⊕ (ByteArray × Bool × Int)) → Option Res) : Option Res :=
    bif (decide (x.2.2 < (x.1.size : Int))) then
      if 0 ≤ x.2.2 ∧ x.2.2 < (x.1.size : Int) then
        bif (decide ((bt x.1 x.2.2) < (97 : Int))) then
          k (.inr (.inl (x.1, false, x.2.2)))
        else
          if 0 ≤ x.2.2 ∧ x.2.2 < (x.1.size : Int) then
            bif (decide ((bt x.1 x.2.2) > (122 : Int))) then
              k (.inr (.inl (x.1, false, x.2.2)))
            else
              k (.inl (x.1, x.2.1, (IntKind.wrap .i64 (x.2.2 + (1 : Int)))))
          else none
      else none
    else
      k (.inr (.inr (x.1, x.2.1, x.2.2)))

theorem impl_KeyOk_bp0 (x : (ByteArray × Bool × Int)) : Par (impl_KeyOk_b0 x) := by
  unfold impl_KeyOk_b0
  exact (par_bif (par_ite (c := 0 ≤ x.2.2 ∧ x.2.2 < (x.1.size : Int)) (par_bif (par_ret _) (par_ite (c := 0 ≤ x.2.2 ∧ x.2.2 < (x.1.size : Int)) (par_bif (par_ret _) (par_ret _)) par_none)) par_none) (par_ret _))

def impl_KeyOk_d (a0 : ByteArray) (k : Bool → Option Res) : Option Res :=
  loopK impl_KeyOk_b0 Fuel (a0, false, (0 : Int)) (Sum.elim (fun z1 =>
    k z1.2.1) (fun z2 =>
    impl_within_k (z2.1.size : Int) (1 : Int) (3 : Int) (fun y3 =>
      k y3)))

theorem impl_KeyOk_h : ∃ g : ByteArray → (Bool → Option Res) → Option Res, g = impl_KeyOk_d := ⟨_, rfl⟩
def impl_KeyOk_k : ByteArray → (Bool → Option Res) → Option Res := Classical.choose impl_KeyOk_h
theorem impl_KeyOk_e : impl_KeyOk_k = impl_KeyOk_d := Classical.choose_spec impl_KeyOk_h

theorem impl_KeyOk_p (a0 : ByteArray) : Par (impl_KeyOk_k a0) := by
  rw [impl_KeyOk_e]
  unfold impl_KeyOk_d
  exact ((par_loop impl_KeyOk_bp0 Fuel (a0, false, (0 : Int))).bind2 (fun z1 => (par_ret _)) (fun z2 => ((impl_within_p (z2.1.size : Int) (1 : Int) (3 : Int)).bind fun y3 => (par_ret _))))

def impl_RangeOk_d (a0 : dRange) (k : Bool → Option Res) : Option Res :=
  impl_KeyOk_k a0.1 (fun y1 =>
    bif y1 then
      impl_KeyOk_k a0.2 (fun y2 =>
        bif y2 then
          k ((strLess a0.1 a0.2) || (strEq a0.1 a0.2))
        else
          k false)
    else
      k false)

theorem impl_RangeOk_h : ∃ g : dRange → (Bool → Option Res) → Option Res, g = impl_RangeOk_d := ⟨_, rfl⟩
def impl_RangeOk_k : dRange → (Bool → Option Res) → Option Res := Classical.choose impl_RangeOk_h
theorem impl_RangeOk_e : impl_RangeOk_k = impl_RangeOk_d := Classical.choose_spec impl_RangeOk_h

theorem impl_RangeOk_p (a0 : dRange) : Par (impl_RangeOk_k a0) := by
  rw [impl_RangeOk_e]
  unfold impl_RangeOk_d
  exact ((impl_KeyOk_p a0.1).bind fun y1 => (par_bif ((impl_KeyOk_p a0.2).bind fun y2 => (par_bif (par_ret _) (par_ret _))) (par_ret _)))

def impl_WriteOk_d (a0 : dWrite) (k : Bool → Option Res) : Option Res :=
  impl_KeyOk_k a0.1 (fun y1 =>
    bif y1 then
      bif (decide ((a0.2.1.size : Int) ≤ (12 : Int))) then
        bif (!a0.2.2) then
          k true
        else
          k (strEq a0.2.1 (⟨#[]⟩ : ByteArray))
      else
        k false
    else
      k false)

theorem impl_WriteOk_h : ∃ g : dWrite → (Bool → Option Res) → Option Res, g = impl_WriteOk_d := ⟨_, rfl⟩
def impl_WriteOk_k : dWrite → (Bool → Option Res) → Option Res := Classical.choose impl_WriteOk_h
theorem impl_WriteOk_e : impl_WriteOk_k = impl_WriteOk_d := Classical.choose_spec impl_WriteOk_h

theorem impl_WriteOk_p (a0 : dWrite) : Par (impl_WriteOk_k a0) := by
  rw [impl_WriteOk_e]
  unfold impl_WriteOk_d
  exact ((impl_KeyOk_p a0.1).bind fun y1 => (par_bif (par_bif (par_bif (par_ret _) (par_ret _)) (par_ret _)) (par_ret _)))

def impl_WritesOk_b0 (x : q26T) (k : q26T ⊕ (q26T ⊕ q26T) → Option Res) : Option Res :=
    bif (decide (x.2.2.2.2 < x.2.2.2.1)) then
      if 0 ≤ x.2.2.2.2 ∧ x.2.2.2.2 < (x.2.2.1.length : Int) then
        impl_WriteOk_k (rd (Ty.zero tWrite) x.2.2.1 x.2.2.2.2) (fun y3 =>
          bif (!y3) then
            k (.inr (.inl (x.1, false, x.2.2.1, x.2.2.2.1, x.2.2.2.2)))
          else
            bif (decide (x.2.2.2.2 > (0 : Int))) then
              if 0 ≤ (IntKind.wrap .i64 (x.2.2.2.2 - (1 : Int))) ∧ (IntKind.wrap .i64 (x.2.2.2.2 - (1 : Int))) < (x.1.length : Int) then
                bif (!(strLess ((rd (Ty.zero tWrite) x.1 (IntKind.wrap .i64 (x.2.2.2.2 - (1 : Int)))).1) ((rd (Ty.zero tWrite) x.2.2.1 x.2.2.2.2).1))) then
                  k (.inr (.inl (x.1, false, x.2.2.1, x.2.2.2.1, x.2.2.2.2)))
                else
                  k (.inl (x.1, x.2.1, x.2.2.1, x.2.2.2.1, (IntKind.wrap .i64 (x.2.2.2.2 + (1 : Int)))))
              else none
            else
              k (.inl (x.1, x.2.1, x.2.2.1, x.2.2.2.1, (IntKind.wrap .i64 (x.2.2.2.2 + (1 : Int))))))
      else none
    else
      k (.inr (.inr (x.1, x.2.1, x.2.2.1, x.2.2.2.1, x.2.2.2.2)))

theorem impl_WritesOk_bp0 (x : q26T) : Par (impl_WritesOk_b0 x) := by
  unfold impl_WritesOk_b0
  exact (par_bif (par_ite (c := 0 ≤ x.2.2.2.2 ∧ x.2.2.2.2 < (x.2.2.1.length : Int)) ((impl_WriteOk_p (rd (Ty.zero tWrite) x.2.2.1 x.2.2.2.2)).bind fun y3 => (par_bif (par_ret _) (par_bif (par_ite (c := 0 ≤ (IntKind.wrap .i64 (x.2.2.2.2 - (1 : Int))) ∧ (IntKind.wrap .i64 (x.2.2.2.2 - (1 : Int))) < (x.1.length : Int)) (par_bif (par_ret _) (par_ret _)) par_none) (par_ret _)))) par_none) (par_ret _))

def impl_WritesOk_d (a0 : (List dWrite)) (k : Bool → Option Res) : Option Res :=
  loopK impl_WritesOk_b0 Fuel (a0, false, a0, (a0.length : Int), (0 : Int)) (Sum.elim (fun z1 =>
    k z1.2.1) (fun z2 =>
    k (decide ((z2.1.length : Int) ≤ (8 : Int)))))

theorem impl_WritesOk_h : ∃ g : (List dWrite) → (Bool → Option Res) → Option Res, g = impl_WritesOk_d := ⟨_, rfl⟩
def impl_WritesOk_k : (List dWrite) → (Bool → Option Res) → Option Res := Classical.choose impl_WritesOk_h
theorem impl_WritesOk_e : impl_WritesOk_k = impl_WritesOk_d := Classical.choose_spec impl_WritesOk_h

theorem impl_WritesOk_p (a0 : (List dWrite)) : Par (impl_WritesOk_k a0) := by
  rw [impl_WritesOk_e]
  unfold impl_WritesOk_d
  exact ((par_loop impl_WritesOk_bp0 Fuel (a0, false, a0, (a0.length : Int), (0 : Int))).bind2 (fun z1 => (par_ret _)) (fun z2 => (par_ret _)))

def impl_TxnOk_j5000011 (x : q32T) (k : q32T → Option Res) : Option Res :=
    bif (x.2.2.1 == (2 : Int)) then
      impl_KeyOk_k x.2.2.2.2.2.2.2.2 (fun y15 =>
        bif y15 then
          k (true, x.2.1, x.2.2.1, x.2.2.2.1, x.2.2.2.2.1, x.2.2.2.2.2.1, x.2.2.2.2.2.2.1, x.2.2.2.2.2.2.2.1, x.2.2.2.2.2.2.2.2)
        else
          bif (x.2.2.1 != (2 : Int)) then
            k ((strEq x.2.2.2.2.2.2.2.2 (⟨#[]⟩ : ByteArray)), x.2.1, x.2.2.1, x.2.2.2.1, x.2.2.2.2.1, x.2.2.2.2.2.1, x.2.2.2.2.2.2.1, x.2.2.2.2.2.2.2.1, x.2.2.2.2.2.2.2.2)
          else
            k (false, x.2.1, x.2.2.1, x.2.2.2.1, x.2.2.2.2.1, x.2.2.2.2.2.1, x.2.2.2.2.2.2.1, x.2.2.2.2.2.2.2.1, x.2.2.2.2.2.2.2.2))
    else
      bif (x.2.2.1 != (2 : Int)) then
        k ((strEq x.2.2.2.2.2.2.2.2 (⟨#[]⟩ : ByteArray)), x.2.1, x.2.2.1, x.2.2.2.1, x.2.2.2.2.1, x.2.2.2.2.2.1, x.2.2.2.2.2.2.1, x.2.2.2.2.2.2.2.1, x.2.2.2.2.2.2.2.2)
      else
        k (false, x.2.1, x.2.2.1, x.2.2.2.1, x.2.2.2.2.1, x.2.2.2.2.2.1, x.2.2.2.2.2.2.1, x.2.2.2.2.2.2.2.1, x.2.2.2.2.2.2.2.2)

theorem impl_TxnOk_jp5000011 (x : q32T) : Par (impl_TxnOk_j5000011 x) := by
  unfold impl_TxnOk_j5000011
  exact (par_bif ((impl_KeyOk_p x.2.2.2.2.2.2.2.2).bind fun y15 => (par_bif (par_ret _) (par_bif (par_ret _) (par_ret _)))) (par_bif (par_ret _) (par_ret _)))

def impl_TxnOk_j5000009 (x : q32T) (k : q32T → Option Res) : Option Res :=
    bif (x.2.2.1 == (3 : Int)) then
      impl_within_k x.2.2.2.2.1 (IntKind.wrap .i64 (x.2.2.2.1 + (1 : Int))) (9999 : Int) (fun y10 =>
        bif (!y10) then
          k (false, x.2.1, x.2.2.1, x.2.2.2.1, x.2.2.2.2.1, x.2.2.2.2.2.1, x.2.2.2.2.2.2.1, x.2.2.2.2.2.2.2.1, x.2.2.2.2.2.2.2.2)
        else
          bif (x.2.2.1 != (3 : Int)) then
            bif (x.2.2.2.2.1 != (0 : Int)) then
              k (false, x.2.1, x.2.2.1, x.2.2.2.1, x.2.2.2.2.1, x.2.2.2.2.2.1, x.2.2.2.2.2.2.1, x.2.2.2.2.2.2.2.1, x.2.2.2.2.2.2.2.2)
            else
              impl_TxnOk_j5000011 (x.1, x.2.1, x.2.2.1, x.2.2.2.1, x.2.2.2.2.1, x.2.2.2.2.2.1, x.2.2.2.2.2.2.1, x.2.2.2.2.2.2.2.1, x.2.2.2.2.2.2.2.2) (fun z11 =>
                k (z11.1, z11.2.1, z11.2.2.1, z11.2.2.2.1, z11.2.2.2.2.1, z11.2.2.2.2.2.1, z11.2.2.2.2.2.2.1, z11.2.2.2.2.2.2.2.1, z11.2.2.2.2.2.2.2.2))
          else
            impl_TxnOk_j5000011 (x.1, x.2.1, x.2.2.1, x.2.2.2.1, x.2.2.2.2.1, x.2.2.2.2.2.1, x.2.2.2.2.2.2.1, x.2.2.2.2.2.2.2.1, x.2.2.2.2.2.2.2.2) (fun z12 =>
              k (z12.1, z12.2.1, z12.2.2.1, z12.2.2.2.1, z12.2.2.2.2.1, z12.2.2.2.2.2.1, z12.2.2.2.2.2.2.1, z12.2.2.2.2.2.2.2.1, z12.2.2.2.2.2.2.2.2)))
    else
      bif (x.2.2.1 != (3 : Int)) then
        bif (x.2.2.2.2.1 != (0 : Int)) then
          k (false, x.2.1, x.2.2.1, x.2.2.2.1, x.2.2.2.2.1, x.2.2.2.2.2.1, x.2.2.2.2.2.2.1, x.2.2.2.2.2.2.2.1, x.2.2.2.2.2.2.2.2)
        else
          impl_TxnOk_j5000011 (x.1, x.2.1, x.2.2.1, x.2.2.2.1, x.2.2.2.2.1, x.2.2.2.2.2.1, x.2.2.2.2.2.2.1, x.2.2.2.2.2.2.2.1, x.2.2.2.2.2.2.2.2) (fun z13 =>
            k (z13.1, z13.2.1, z13.2.2.1, z13.2.2.2.1, z13.2.2.2.2.1, z13.2.2.2.2.2.1, z13.2.2.2.2.2.2.1, z13.2.2.2.2.2.2.2.1, z13.2.2.2.2.2.2.2.2))
      else
        impl_TxnOk_j5000011 (x.1, x.2.1, x.2.2.1, x.2.2.2.1, x.2.2.2.2.1, x.2.2.2.2.2.1, x.2.2.2.2.2.2.1, x.2.2.2.2.2.2.2.1, x.2.2.2.2.2.2.2.2) (fun z14 =>
          k (z14.1, z14.2.1, z14.2.2.1, z14.2.2.2.1, z14.2.2.2.2.1, z14.2.2.2.2.2.1, z14.2.2.2.2.2.2.1, z14.2.2.2.2.2.2.2.1, z14.2.2.2.2.2.2.2.2))

theorem impl_TxnOk_jp5000009 (x : q32T) : Par (impl_TxnOk_j5000009 x) := by
  unfold impl_TxnOk_j5000009
  exact (par_bif ((impl_within_p x.2.2.2.2.1 (IntKind.wrap .i64 (x.2.2.2.1 + (1 : Int))) (9999 : Int)).bind fun y10 => (par_bif (par_ret _) (par_bif (par_bif (par_ret _) ((impl_TxnOk_jp5000011 (x.1, x.2.1, x.2.2.1, x.2.2.2.1, x.2.2.2.2.1, x.2.2.2.2.2.1, x.2.2.2.2.2.2.1, x.2.2.2.2.2.2.2.1, x.2.2.2.2.2.2.2.2)).bind fun z11 => (par_ret _))) ((impl_TxnOk_jp5000011 (x.1, x.2.1, x.2.2.1, x.2.2.2.1, x.2.2.2.2.1, x.2.2.2.2.2.1, x.2.2.2.2.2.2.1, x.2.2.2.2.2.2.2.1, x.2.2.2.2.2.2.2.2)).bind fun z12 => (par_ret _))))) (par_bif (par_bif (par_ret _) ((impl_TxnOk_jp5000011 (x.1, x.2.1, x.2.2.1, x.2.2.2.1, x.2.2.2.2.1, x.2.2.2.2.2.1, x.2.2.2.2.2.2.1, x.2.2.2.2.2.2.2.1, x.2.2.2.2.2.2.2.2)).bind fun z13 => (par_ret _))) ((impl_TxnOk_jp5000011 (x.1, x.2.1, x.2.2.1, x.2.2.2.1, x.2.2.2.2.1, x.2.2.2.2.2.1, x.2.2.2.2.2.2.1, x.2.2.2.2.2.2.2.1, x.2.2.2.2.2.2.2.2)).bind fun z14 => (par_ret _))))

def impl_TxnOk_b0 (x : q30T) (k : q30T ⊕ (q30T ⊕ q30T) → Option Res) : Option Res :=
    bif (decide (x.2.2.2.1 < x.2.2.1)) then
      if 0 ≤ x.2.2.2.1 ∧ x.2.2.2.1 < (x.2.1.length : Int) then
        impl_RangeOk_k (rd (Ty.zero tRange) x.2.1 x.2.2.2.1) (fun y9 =>
          bif (!y9) then
            k (.inr (.inl (false, x.2.1, x.2.2.1, x.2.2.2.1, x.2.2.2.2.1, x.2.2.2.2.2.1, x.2.2.2.2.2.2.1, x.2.2.2.2.2.2.2.1, x.2.2.2.2.2.2.2.2.1, x.2.2.2.2.2.2.2.2.2.1, x.2.2.2.2.2.2.2.2.2.2.1, x.2.2.2.2.2.2.2.2.2.2.2)))
          else
            k (.inl (x.1, x.2.1, x.2.2.1, (IntKind.wrap .i64 (x.2.2.2.1 + (1 : Int))), x.2.2.2.2.1, x.2.2.2.2.2.1, x.2.2.2.2.2.2.1, x.2.2.2.2.2.2.2.1, x.2.2.2.2.2.2.2.2.1, x.2.2.2.2.2.2.2.2.2.1, x.2.2.2.2.2.2.2.2.2.2.1, x.2.2.2.2.2.2.2.2.2.2.2)))
      else none
    else
      k (.inr (.inr (x.1, x.2.1, x.2.2.1, x.2.2.2.1, x.2.2.2.2.1, x.2.2.2.2.2.1, x.2.2.2.2.2.2.1, x.2.2.2.2.2.2.2.1, x.2.2.2.2.2.2.2.2.1, x.2.2.2.2.2.2.2.2.2.1, x.2.2.2.2.2.2.2.2.2.2.1, x.2.2.2.2.2.2.2.2.2.2.2)))

theorem impl_TxnOk_bp0 (x : q30T) : Par (impl_TxnOk_b0 x) := by
  unfold impl_TxnOk_b0
  exact (par_bif (par_ite (c := 0 ≤ x.2.2.2.1 ∧ x.2.2.2.1 < (x.2.1.length : Int)) ((impl_RangeOk_p (rd (Ty.zero tRange) x.2.1 x.2.2.2.1)).bind fun y9 => (par_bif (par_ret _) (par_ret _))) par_none) (par_ret _))

def impl_TxnOk_d (a0 : dTxn) (k : Bool → Option Res) : Option Res :=
  loopK impl_TxnOk_b0 Fuel (false, a0.2.2.2.2.1, (a0.2.2.2.2.1.length : Int), (0 : Int), a0.1, a0.2.1, a0.2.2.1, a0.2.2.2.1, a0.2.2.2.2.1, a0.2.2.2.2.2.1, a0.2.2.2.2.2.2.1, a0.2.2.2.2.2.2.2) (Sum.elim (fun z1 =>
    k z1.1) (fun z2 =>
    impl_within_k z2.2.2.2.2.1 (1 : Int) (9999 : Int) (fun y3 =>
      bif (!y3) then
        k false
      else
        impl_within_k z2.2.2.2.2.2.1 (1 : Int) (3 : Int) (fun y4 =>
          bif (!y4) then
            k false
          else
            impl_within_k z2.2.2.2.2.2.2.1 (0 : Int) (9999 : Int) (fun y5 =>
              bif (!y5) then
                k false
              else
                bif (decide ((z2.2.2.2.2.2.2.2.2.1.length : Int) > (8 : Int))) then
                  k false
                else
                  impl_WritesOk_k z2.2.2.2.2.2.2.2.2.2.1 (fun y6 =>
                    bif (!y6) then
                      k false
                    else
                      bif z2.2.2.2.2.2.2.2.2.2.2.1 then
                        bif (z2.2.2.2.2.2.1 == (1 : Int)) then
                          k false
                        else
                          impl_TxnOk_j5000009 (z2.1, z2.2.2.2.2.1, z2.2.2.2.2.2.1, z2.2.2.2.2.2.2.1, z2.2.2.2.2.2.2.2.1, z2.2.2.2.2.2.2.2.2.1, z2.2.2.2.2.2.2.2.2.2.1, z2.2.2.2.2.2.2.2.2.2.2.1, z2.2.2.2.2.2.2.2.2.2.2.2) (fun z7 =>
                            k z7.1)
                      else
                        impl_TxnOk_j5000009 (z2.1, z2.2.2.2.2.1, z2.2.2.2.2.2.1, z2.2.2.2.2.2.2.1, z2.2.2.2.2.2.2.2.1, z2.2.2.2.2.2.2.2.2.1, z2.2.2.2.2.2.2.2.2.2.1, z2.2.2.2.2.2.2.2.2.2.2.1, z2.2.2.2.2.2.2.2.2.2.2.2) (fun z8 =>
                          k z8.1)))))))

theorem impl_TxnOk_h : ∃ g : dTxn → (Bool → Option Res) → Option Res, g = impl_TxnOk_d := ⟨_, rfl⟩
def impl_TxnOk_k : dTxn → (Bool → Option Res) → Option Res := Classical.choose impl_TxnOk_h
theorem impl_TxnOk_e : impl_TxnOk_k = impl_TxnOk_d := Classical.choose_spec impl_TxnOk_h

theorem impl_TxnOk_p (a0 : dTxn) : Par (impl_TxnOk_k a0) := by
  rw [impl_TxnOk_e]
  unfold impl_TxnOk_d
  exact ((par_loop impl_TxnOk_bp0 Fuel (false, a0.2.2.2.2.1, (a0.2.2.2.2.1.length : Int), (0 : Int), a0.1, a0.2.1, a0.2.2.1, a0.2.2.2.1, a0.2.2.2.2.1, a0.2.2.2.2.2.1, a0.2.2.2.2.2.2.1, a0.2.2.2.2.2.2.2)).bind2 (fun z1 => (par_ret _)) (fun z2 => ((impl_within_p z2.2.2.2.2.1 (1 : Int) (9999 : Int)).bind fun y3 => (par_bif (par_ret _) ((impl_within_p z2.2.2.2.2.2.1 (1 : Int) (3 : Int)).bind fun y4 => (par_bif (par_ret _) ((impl_within_p z2.2.2.2.2.2.2.1 (0 : Int) (9999 : Int)).bind fun y5 => (par_bif (par_ret _) (par_bif (par_ret _) ((impl_WritesOk_p z2.2.2.2.2.2.2.2.2.2.1).bind fun y6 => (par_bif (par_ret _) (par_bif (par_bif (par_ret _) ((impl_TxnOk_jp5000009 (z2.1, z2.2.2.2.2.1, z2.2.2.2.2.2.1, z2.2.2.2.2.2.2.1, z2.2.2.2.2.2.2.2.1, z2.2.2.2.2.2.2.2.2.1, z2.2.2.2.2.2.2.2.2.2.1, z2.2.2.2.2.2.2.2.2.2.2.1, z2.2.2.2.2.2.2.2.2.2.2.2)).bind fun z7 => (par_ret _))) ((impl_TxnOk_jp5000009 (z2.1, z2.2.2.2.2.1, z2.2.2.2.2.2.1, z2.2.2.2.2.2.2.1, z2.2.2.2.2.2.2.2.1, z2.2.2.2.2.2.2.2.2.1, z2.2.2.2.2.2.2.2.2.2.1, z2.2.2.2.2.2.2.2.2.2.2.1, z2.2.2.2.2.2.2.2.2.2.2.2)).bind fun z8 => (par_ret _))))))))))))))

def impl_VarText_b0 (x : (Int × (List Int))) (k : (Int × (List Int)) ⊕ (Int × (List Int)) → Option Res) : Option Res :=
    bif (decide (x.1 > (127 : Int))) then
      if x.2.length + [(IntKind.wrap .u8 (IntKind.wrap .i64 ((x.1.tmod (128 : Int)) + (128 : Int))))].length ≤ VE.maxLen then
        k (.inl ((IntKind.wrap .i64 (x.1.tdiv (128 : Int))), (x.2 ++ [(IntKind.wrap .u8 (IntKind.wrap .i64 ((x.1.tmod (128 : Int)) + (128 : Int))))])))
      else none
    else
      k (.inr (x.1, x.2))

theorem impl_VarText_bp0 (x : (Int × (List Int))) : Par (impl_VarText_b0 x) := by
  unfold impl_VarText_b0
  exact (par_bif (par_ite (c := x.2.length + [(IntKind.wrap .u8 (IntKind.wrap .i64 ((x.1.tmod (128 : Int)) + (128 : Int))))].length ≤ VE.maxLen) (par_ret _) par_none) (par_ret _))

def impl_VarText_d (a0 : Int) (k : (ByteArray × Bool) → Option Res) : Option Res :=
  impl_within_k a0 (0 : Int) (1000000000 : Int) (fun y1 =>
    bif (!y1) then
      k ((⟨#[]⟩ : ByteArray), false)
    else
      loopK impl_VarText_b0 Fuel (a0, ([] : List Int)) (fun z2 =>
        if z2.2.length + [(IntKind.wrap .u8 z2.1)].length ≤ VE.maxLen then
          k ((bytesOf (z2.2 ++ [(IntKind.wrap .u8 z2.1)])), true)
        else none))

theorem impl_VarText_h : ∃ g : Int → ((ByteArray × Bool) → Option Res) → Option Res, g = impl_VarText_d := ⟨_, rfl⟩
def impl_VarText_k : Int → ((ByteArray × Bool) → Option Res) → Option Res := Classical.choose impl_VarText_h
theorem impl_VarText_e : impl_VarText_k = impl_VarText_d := Classical.choose_spec impl_VarText_h

theorem impl_VarText_p (a0 : Int) : Par (impl_VarText_k a0) := by
  rw [impl_VarText_e]
  unfold impl_VarText_d
  exact ((impl_within_p a0 (0 : Int) (1000000000 : Int)).bind fun y1 => (par_bif (par_ret _) ((par_loop impl_VarText_bp0 Fuel (a0, ([] : List Int))).bind fun z2 => (par_ite (c := z2.2.length + [(IntKind.wrap .u8 z2.1)].length ≤ VE.maxLen) (par_ret _) par_none))))

def impl_plan_num_b0 (x : q3T) (k : q3T ⊕ q3T → Option Res) : Option Res :=
    bif (decide (x.2.2.1 < x.2.1)) then
      if 0 ≤ x.2.2.1 ∧ x.2.2.1 < (x.1.length : Int) then
        impl_VarText_k (rd (Ty.zero (.int .i64)) x.1 x.2.2.1) (fun y2 =>
          if x.2.2.2.length + (intsOf y2.1).length ≤ VE.maxLen then
            k (.inl (x.1, x.2.1, (IntKind.wrap .i64 (x.2.2.1 + (1 : Int))), (x.2.2.2 ++ (intsOf y2.1))))
          else none)
      else none
    else
      k (.inr (x.1, x.2.1, x.2.2.1, x.2.2.2))

theorem impl_plan_num_bp0 (x : q3T) : Par (impl_plan_num_b0 x) := by
  unfold impl_plan_num_b0
  exact (par_bif (par_ite (c := 0 ≤ x.2.2.1 ∧ x.2.2.1 < (x.1.length : Int)) ((impl_VarText_p (rd (Ty.zero (.int .i64)) x.1 x.2.2.1)).bind fun y2 => (par_ite (c := x.2.2.2.length + (intsOf y2.1).length ≤ VE.maxLen) (par_ret _) par_none)) par_none) (par_ret _))

def impl_plan_num_d (a0 : (List Int)) (k : (List Int) → Option Res) : Option Res :=
  loopK impl_plan_num_b0 Fuel (a0, (a0.length : Int), (0 : Int), ([] : List Int)) (fun z1 =>
    k z1.2.2.2)

theorem impl_plan_num_h : ∃ g : (List Int) → ((List Int) → Option Res) → Option Res, g = impl_plan_num_d := ⟨_, rfl⟩
def impl_plan_num_k : (List Int) → ((List Int) → Option Res) → Option Res := Classical.choose impl_plan_num_h
theorem impl_plan_num_e : impl_plan_num_k = impl_plan_num_d := Classical.choose_spec impl_plan_num_h

theorem impl_plan_num_p (a0 : (List Int)) : Par (impl_plan_num_k a0) := by
  rw [impl_plan_num_e]
  unfold impl_plan_num_d
  exact ((par_loop impl_plan_num_bp0 Fuel (a0, (a0.length : Int), (0 : Int), ([] : List Int))).bind fun z1 => (par_ret _))

def impl_ShortText_d (a0 : ByteArray) (k : (ByteArray × Bool) → Option Res) : Option Res :=
  bif (decide ((a0.size : Int) > (20000 : Int))) then
    k ((⟨#[]⟩ : ByteArray), false)
  else
    impl_VarText_k (a0.size : Int) (fun y1 =>
      if y1.1.size + a0.size ≤ 1099511627776 then
        k ((y1.1 ++ a0), true)
      else none)

theorem impl_ShortText_h : ∃ g : ByteArray → ((ByteArray × Bool) → Option Res) → Option Res, g = impl_ShortText_d := ⟨_, rfl⟩
def impl_ShortText_k : ByteArray → ((ByteArray × Bool) → Option Res) → Option Res := Classical.choose impl_ShortText_h
theorem impl_ShortText_e : impl_ShortText_k = impl_ShortText_d := Classical.choose_spec impl_ShortText_h

theorem impl_ShortText_p (a0 : ByteArray) : Par (impl_ShortText_k a0) := by
  rw [impl_ShortText_e]
  unfold impl_ShortText_d
  exact (par_bif (par_ret _) ((impl_VarText_p (a0.size : Int)).bind fun y1 => (par_ite (c := y1.1.size + a0.size ≤ 1099511627776) (par_ret _) par_none)))

def impl_plan_text_b0 (x : (q2T ⊕ q2T)) (k : (q2T ⊕ q2T) ⊕ (q2T ⊕ q2T) → Option Res) : Option Res :=
  (Sum.elim (fun x =>
    bif (decide (x.2.2.1 < x.2.1)) then
      if 0 ≤ x.2.2.1 ∧ x.2.2.1 < (x.1.length : Int) then
        impl_ShortText_k (rd (Ty.zero .str) x.1 x.2.2.1) (fun y3 =>
          if x.2.2.2.length + (intsOf y3.1).length ≤ VE.maxLen then
            k (.inl (.inr (x.1, x.2.1, (IntKind.wrap .i64 (x.2.2.1 + (1 : Int))), (x.2.2.2 ++ (intsOf y3.1)))))
          else none)
      else none
    else
      k (.inr (.inl (x.1, x.2.1, x.2.2.1, x.2.2.2)))) (fun x =>
    bif (decide (x.2.2.1 < x.2.1)) then
      if 0 ≤ x.2.2.1 ∧ x.2.2.1 < (x.1.length : Int) then
        impl_ShortText_k (rd (Ty.zero .str) x.1 x.2.2.1) (fun y4 =>
          if x.2.2.2.length + (intsOf y4.1).length ≤ VE.maxLen then
            k (.inl (.inr (x.1, x.2.1, (IntKind.wrap .i64 (x.2.2.1 + (1 : Int))), (x.2.2.2 ++ (intsOf y4.1)))))
          else none)
      else none
    else
      k (.inr (.inr (x.1, x.2.1, x.2.2.1, x.2.2.2))))) x

theorem impl_plan_text_bp0 (x : (q2T ⊕ q2T)) : Par (impl_plan_text_b0 x) := by
  unfold impl_plan_text_b0
  exact (fun x => par_elim (fun x => (par_bif (c := (decide (x.2.2.1 < x.2.1))) (par_ite (c := 0 ≤ x.2.2.1 ∧ x.2.2.1 < (x.1.length : Int)) ((impl_ShortText_p (rd (Ty.zero .str) x.1 x.2.2.1)).bind fun y3 => (par_ite (c := x.2.2.2.length + (intsOf y3.1).length ≤ VE.maxLen) (par_ret (Sum.inl (Sum.inr (x.1, x.2.1, (IntKind.wrap .i64 (x.2.2.1 + (1 : Int))), (x.2.2.2 ++ (intsOf y3.1)))))) par_none)) par_none) (par_ret (Sum.inr (Sum.inl (x.1, x.2.1, x.2.2.1, x.2.2.2)))))) (fun x => (par_bif (c := (decide (x.2.2.1 < x.2.1))) (par_ite (c := 0 ≤ x.2.2.1 ∧ x.2.2.1 < (x.1.length : Int)) ((impl_ShortText_p (rd (Ty.zero .str) x.1 x.2.2.1)).bind fun y4 => (par_ite (c := x.2.2.2.length + (intsOf y4.1).length ≤ VE.maxLen) (par_ret (Sum.inl (Sum.inr (x.1, x.2.1, (IntKind.wrap .i64 (x.2.2.1 + (1 : Int))), (x.2.2.2 ++ (intsOf y4.1)))))) par_none)) par_none) (par_ret (Sum.inr (Sum.inr (x.1, x.2.1, x.2.2.1, x.2.2.2)))))) x) x

def impl_plan_text_d (a0 : (List ByteArray)) (a1 : (List Int)) (k : ((List Int) ⊕ (List Int)) → Option Res) : Option Res :=
  loopK impl_plan_text_b0 Fuel (.inl (a0, (a0.length : Int), (0 : Int), a1)) (Sum.elim (fun z1 =>
    k (.inl z1.2.2.2)) (fun z2 =>
    k (.inr z2.2.2.2)))

theorem impl_plan_text_h : ∃ g : (List ByteArray) → (List Int) → (((List Int) ⊕ (List Int)) → Option Res) → Option Res, g = impl_plan_text_d := ⟨_, rfl⟩
def impl_plan_text_k : (List ByteArray) → (List Int) → (((List Int) ⊕ (List Int)) → Option Res) → Option Res := Classical.choose impl_plan_text_h
theorem impl_plan_text_e : impl_plan_text_k = impl_plan_text_d := Classical.choose_spec impl_plan_text_h

theorem impl_plan_text_p (a0 : (List ByteArray)) (a1 : (List Int)) : Par (impl_plan_text_k a0 a1) := by
  rw [impl_plan_text_e]
  unfold impl_plan_text_d
  exact ((par_loop impl_plan_text_bp0 Fuel (.inl (a0, (a0.length : Int), (0 : Int), a1))).bind2 (fun z1 => (par_ret _)) (fun z2 => (par_ret _)))

def impl_plan_num_61bd_b0 (x : (q3T ⊕ q3T)) (k : (q3T ⊕ q3T) ⊕ (q3T ⊕ q3T) → Option Res) : Option Res :=
  (Sum.elim (fun x =>
    bif (decide (x.2.2.1 < x.2.1)) then
      if 0 ≤ x.2.2.1 ∧ x.2.2.1 < (x.1.length : Int) then
        impl_VarText_k (rd (Ty.zero (.int .i64)) x.1 x.2.2.1) (fun y3 =>
          if x.2.2.2.length + (intsOf y3.1).length ≤ VE.maxLen then
            k (.inl (.inr (x.1, x.2.1, (IntKind.wrap .i64 (x.2.2.1 + (1 : Int))), (x.2.2.2 ++ (intsOf y3.1)))))
          else none)
      else none
    else
      k (.inr (.inl (x.1, x.2.1, x.2.2.1, x.2.2.2)))) (fun x =>
    bif (decide (x.2.2.1 < x.2.1)) then
      if 0 ≤ x.2.2.1 ∧ x.2.2.1 < (x.1.length : Int) then
        impl_VarText_k (rd (Ty.zero (.int .i64)) x.1 x.2.2.1) (fun y4 =>
          if x.2.2.2.length + (intsOf y4.1).length ≤ VE.maxLen then
            k (.inl (.inr (x.1, x.2.1, (IntKind.wrap .i64 (x.2.2.1 + (1 : Int))), (x.2.2.2 ++ (intsOf y4.1)))))
          else none)
      else none
    else
      k (.inr (.inr (x.1, x.2.1, x.2.2.1, x.2.2.2))))) x

theorem impl_plan_num_61bd_bp0 (x : (q3T ⊕ q3T)) : Par (impl_plan_num_61bd_b0 x) := by
  unfold impl_plan_num_61bd_b0
  exact (fun x => par_elim (fun x => (par_bif (c := (decide (x.2.2.1 < x.2.1))) (par_ite (c := 0 ≤ x.2.2.1 ∧ x.2.2.1 < (x.1.length : Int)) ((impl_VarText_p (rd (Ty.zero (.int .i64)) x.1 x.2.2.1)).bind fun y3 => (par_ite (c := x.2.2.2.length + (intsOf y3.1).length ≤ VE.maxLen) (par_ret (Sum.inl (Sum.inr (x.1, x.2.1, (IntKind.wrap .i64 (x.2.2.1 + (1 : Int))), (x.2.2.2 ++ (intsOf y3.1)))))) par_none)) par_none) (par_ret (Sum.inr (Sum.inl (x.1, x.2.1, x.2.2.1, x.2.2.2)))))) (fun x => (par_bif (c := (decide (x.2.2.1 < x.2.1))) (par_ite (c := 0 ≤ x.2.2.1 ∧ x.2.2.1 < (x.1.length : Int)) ((impl_VarText_p (rd (Ty.zero (.int .i64)) x.1 x.2.2.1)).bind fun y4 => (par_ite (c := x.2.2.2.length + (intsOf y4.1).length ≤ VE.maxLen) (par_ret (Sum.inl (Sum.inr (x.1, x.2.1, (IntKind.wrap .i64 (x.2.2.1 + (1 : Int))), (x.2.2.2 ++ (intsOf y4.1)))))) par_none)) par_none) (par_ret (Sum.inr (Sum.inr (x.1, x.2.1, x.2.2.1, x.2.2.2)))))) x) x

def impl_plan_num_61bd_d (a0 : (List Int)) (a1 : (List Int)) (k : ((List Int) ⊕ (List Int)) → Option Res) : Option Res :=
  loopK impl_plan_num_61bd_b0 Fuel (.inl (a0, (a0.length : Int), (0 : Int), a1)) (Sum.elim (fun z1 =>
    k (.inl z1.2.2.2)) (fun z2 =>
    k (.inr z2.2.2.2)))

theorem impl_plan_num_61bd_h : ∃ g : (List Int) → (List Int) → (((List Int) ⊕ (List Int)) → Option Res) → Option Res, g = impl_plan_num_61bd_d := ⟨_, rfl⟩
def impl_plan_num_61bd_k : (List Int) → (List Int) → (((List Int) ⊕ (List Int)) → Option Res) → Option Res := Classical.choose impl_plan_num_61bd_h
theorem impl_plan_num_61bd_e : impl_plan_num_61bd_k = impl_plan_num_61bd_d := Classical.choose_spec impl_plan_num_61bd_h

theorem impl_plan_num_61bd_p (a0 : (List Int)) (a1 : (List Int)) : Par (impl_plan_num_61bd_k a0 a1) := by
  rw [impl_plan_num_61bd_e]
  unfold impl_plan_num_61bd_d
  exact ((par_loop impl_plan_num_61bd_bp0 Fuel (.inl (a0, (a0.length : Int), (0 : Int), a1))).bind2 (fun z1 => (par_ret _)) (fun z2 => (par_ret _)))

def impl_plan_flag_j5000003 (x : (Int × (List Int))) (k : (Int × (List Int)) → Option Res) : Option Res :=
    if x.2.length + [x.1].length ≤ VE.maxLen then
      k (x.1, (x.2 ++ [x.1]))
    else none

theorem impl_plan_flag_jp5000003 (x : (Int × (List Int))) : Par (impl_plan_flag_j5000003 x) := by
  unfold impl_plan_flag_j5000003
  exact (par_ite (c := x.2.length + [x.1].length ≤ VE.maxLen) (par_ret _) par_none)

def impl_plan_flag_d (a0 : Bool) (a1 : (List Int)) (k : (List Int) → Option Res) : Option Res :=
  bif a0 then
    impl_plan_flag_j5000003 ((1 : Int), a1) (fun z1 =>
      k z1.2)
  else
    impl_plan_flag_j5000003 ((0 : Int), a1) (fun z2 =>
      k z2.2)

theorem impl_plan_flag_h : ∃ g : Bool → (List Int) → ((List Int) → Option Res) → Option Res, g = impl_plan_flag_d := ⟨_, rfl⟩
def impl_plan_flag_k : Bool → (List Int) → ((List Int) → Option Res) → Option Res := Classical.choose impl_plan_flag_h
theorem impl_plan_flag_e : impl_plan_flag_k = impl_plan_flag_d := Classical.choose_spec impl_plan_flag_h

theorem impl_plan_flag_p (a0 : Bool) (a1 : (List Int)) : Par (impl_plan_flag_k a0 a1) := by
  rw [impl_plan_flag_e]
  unfold impl_plan_flag_d
  exact (par_bif ((impl_plan_flag_jp5000003 ((1 : Int), a1)).bind fun z1 => (par_ret _)) ((impl_plan_flag_jp5000003 ((0 : Int), a1)).bind fun z2 => (par_ret _)))

def impl_TxnText_b0 (x : q7T) (k : q7T ⊕ q7T → Option Res) : Option Res :=
    bif (decide (x.2.2.1 < x.2.1)) then
      if 0 ≤ x.2.2.1 ∧ x.2.2.1 < (x.1.length : Int) then
        impl_plan_text_k [(rd (Ty.zero tRange) x.1 x.2.2.1).1, (rd (Ty.zero tRange) x.1 x.2.2.1).2] x.2.2.2.2.2.2.2.2.2.2.2 (Sum.elim (fun y14 =>
          k (.inl (x.1, x.2.1, (IntKind.wrap .i64 (x.2.2.1 + (1 : Int))), x.2.2.2.1, x.2.2.2.2.1, x.2.2.2.2.2.1, x.2.2.2.2.2.2.1, x.2.2.2.2.2.2.2.1, x.2.2.2.2.2.2.2.2.1, x.2.2.2.2.2.2.2.2.2.1, x.2.2.2.2.2.2.2.2.2.2.1, y14))) (fun y15 =>
          k (.inl (x.1, x.2.1, (IntKind.wrap .i64 (x.2.2.1 + (1 : Int))), x.2.2.2.1, x.2.2.2.2.1, x.2.2.2.2.2.1, x.2.2.2.2.2.2.1, x.2.2.2.2.2.2.2.1, x.2.2.2.2.2.2.2.2.1, x.2.2.2.2.2.2.2.2.2.1, x.2.2.2.2.2.2.2.2.2.2.1, y15))))
      else none
    else
      k (.inr (x.1, x.2.1, x.2.2.1, x.2.2.2.1, x.2.2.2.2.1, x.2.2.2.2.2.1, x.2.2.2.2.2.2.1, x.2.2.2.2.2.2.2.1, x.2.2.2.2.2.2.2.2.1, x.2.2.2.2.2.2.2.2.2.1, x.2.2.2.2.2.2.2.2.2.2.1, x.2.2.2.2.2.2.2.2.2.2.2))

theorem impl_TxnText_bp0 (x : q7T) : Par (impl_TxnText_b0 x) := by
  unfold impl_TxnText_b0
  exact (par_bif (par_ite (c := 0 ≤ x.2.2.1 ∧ x.2.2.1 < (x.1.length : Int)) ((impl_plan_text_p [(rd (Ty.zero tRange) x.1 x.2.2.1).1, (rd (Ty.zero tRange) x.1 x.2.2.1).2] x.2.2.2.2.2.2.2.2.2.2.2).bind2 (fun y14 => (par_ret _)) (fun y15 => (par_ret _))) par_none) (par_ret _))

def impl_TxnText_b2 (x : q28T) (k : q28T ⊕ q28T → Option Res) : Option Res :=
    bif (decide (x.2.2.1 < x.2.1)) then
      if 0 ≤ x.2.2.1 ∧ x.2.2.1 < (x.1.length : Int) then
        impl_plan_text_k [(rd (Ty.zero tWrite) x.1 x.2.2.1).1, (rd (Ty.zero tWrite) x.1 x.2.2.1).2.1] x.2.2.2.2.2.2.2.2.2.2.2 (Sum.elim (fun y16 =>
          impl_plan_flag_k ((rd (Ty.zero tWrite) x.1 x.2.2.1).2.2) y16 (fun y17 =>
            k (.inl (x.1, x.2.1, (IntKind.wrap .i64 (x.2.2.1 + (1 : Int))), x.2.2.2.1, x.2.2.2.2.1, x.2.2.2.2.2.1, x.2.2.2.2.2.2.1, x.2.2.2.2.2.2.2.1, x.2.2.2.2.2.2.2.2.1, x.2.2.2.2.2.2.2.2.2.1, x.2.2.2.2.2.2.2.2.2.2.1, y17)))) (fun y18 =>
          impl_plan_flag_k ((rd (Ty.zero tWrite) x.1 x.2.2.1).2.2) y18 (fun y19 =>
            k (.inl (x.1, x.2.1, (IntKind.wrap .i64 (x.2.2.1 + (1 : Int))), x.2.2.2.1, x.2.2.2.2.1, x.2.2.2.2.2.1, x.2.2.2.2.2.2.1, x.2.2.2.2.2.2.2.1, x.2.2.2.2.2.2.2.2.1, x.2.2.2.2.2.2.2.2.2.1, x.2.2.2.2.2.2.2.2.2.2.1, y19)))))
      else none
    else
      k (.inr (x.1, x.2.1, x.2.2.1, x.2.2.2.1, x.2.2.2.2.1, x.2.2.2.2.2.1, x.2.2.2.2.2.2.1, x.2.2.2.2.2.2.2.1, x.2.2.2.2.2.2.2.2.1, x.2.2.2.2.2.2.2.2.2.1, x.2.2.2.2.2.2.2.2.2.2.1, x.2.2.2.2.2.2.2.2.2.2.2))

theorem impl_TxnText_bp2 (x : q28T) : Par (impl_TxnText_b2 x) := by
  unfold impl_TxnText_b2
  exact (par_bif (par_ite (c := 0 ≤ x.2.2.1 ∧ x.2.2.1 < (x.1.length : Int)) ((impl_plan_text_p [(rd (Ty.zero tWrite) x.1 x.2.2.1).1, (rd (Ty.zero tWrite) x.1 x.2.2.1).2.1] x.2.2.2.2.2.2.2.2.2.2.2).bind2 (fun y16 => ((impl_plan_flag_p ((rd (Ty.zero tWrite) x.1 x.2.2.1).2.2) y16).bind fun y17 => (par_ret _))) (fun y18 => ((impl_plan_flag_p ((rd (Ty.zero tWrite) x.1 x.2.2.1).2.2) y18).bind fun y19 => (par_ret _)))) par_none) (par_ret _))

def impl_TxnText_d (a0 : dTxn) (k : (ByteArray × Bool) → Option Res) : Option Res :=
  impl_TxnOk_k a0 (fun y1 =>
    bif (!y1) then
      k ((⟨#[]⟩ : ByteArray), false)
    else
      impl_plan_num_k [a0.1, a0.2.1, a0.2.2.1, a0.2.2.2.1, (a0.2.2.2.2.1.length : Int)] (fun y2 =>
        loopK impl_TxnText_b0 Fuel (a0.2.2.2.2.1, (a0.2.2.2.2.1.length : Int), (0 : Int), a0.1, a0.2.1, a0.2.2.1, a0.2.2.2.1, a0.2.2.2.2.1, a0.2.2.2.2.2.1, a0.2.2.2.2.2.2.1, a0.2.2.2.2.2.2.2, y2) (fun z3 =>
          impl_plan_num_61bd_k [(z3.2.2.2.2.2.2.2.2.1.length : Int)] z3.2.2.2.2.2.2.2.2.2.2.2 (Sum.elim (fun y4 =>
            loopK impl_TxnText_b2 Fuel (z3.2.2.2.2.2.2.2.2.1, (z3.2.2.2.2.2.2.2.2.1.length : Int), (0 : Int), z3.2.2.2.1, z3.2.2.2.2.1, z3.2.2.2.2.2.1, z3.2.2.2.2.2.2.1, z3.2.2.2.2.2.2.2.1, z3.2.2.2.2.2.2.2.2.1, z3.2.2.2.2.2.2.2.2.2.1, z3.2.2.2.2.2.2.2.2.2.2.1, y4) (fun z5 =>
              impl_plan_flag_k z5.2.2.2.2.2.2.2.2.2.1 z5.2.2.2.2.2.2.2.2.2.2.2 (fun y6 =>
                impl_plan_text_k [z5.2.2.2.2.2.2.2.2.2.2.1] y6 (Sum.elim (fun y7 =>
                  k ((bytesOf y7), true)) (fun y8 =>
                  k ((bytesOf y8), true)))))) (fun y9 =>
            loopK impl_TxnText_b2 Fuel (z3.2.2.2.2.2.2.2.2.1, (z3.2.2.2.2.2.2.2.2.1.length : Int), (0 : Int), z3.2.2.2.1, z3.2.2.2.2.1, z3.2.2.2.2.2.1, z3.2.2.2.2.2.2.1, z3.2.2.2.2.2.2.2.1, z3.2.2.2.2.2.2.2.2.1, z3.2.2.2.2.2.2.2.2.2.1, z3.2.2.2.2.2.2.2.2.2.2.1, y9) (fun z10 =>
              impl_plan_flag_k z10.2.2.2.2.2.2.2.2.2.1 z10.2.2.2.2.2.2.2.2.2.2.2 (fun y11 =>
                impl_plan_text_k [z10.2.2.2.2.2.2.2.2.2.2.1] y11 (Sum.elim (fun y12 =>
                  k ((bytesOf y12), true)) (fun y13 =>
                  k ((bytesOf y13), true))))))))))

theorem impl_TxnText_h : ∃ g : dTxn → ((ByteArray × Bool) → Option Res) → Option Res, g = impl_TxnText_d := ⟨_, rfl⟩
def impl_TxnText_k : dTxn → ((ByteArray × Bool) → Option Res) → Option Res := Classical.choose impl_TxnText_h
theorem impl_TxnText_e : impl_TxnText_k = impl_TxnText_d := Classical.choose_spec impl_TxnText_h

theorem impl_TxnText_p (a0 : dTxn) : Par (impl_TxnText_k a0) := by
  rw [impl_TxnText_e]
  unfold impl_TxnText_d
  exact ((impl_TxnOk_p a0).bind fun y1 => (par_bif (par_ret _) ((impl_plan_num_p [a0.1, a0.2.1, a0.2.2.1, a0.2.2.2.1, (a0.2.2.2.2.1.length : Int)]).bind fun y2 => ((par_loop impl_TxnText_bp0 Fuel (a0.2.2.2.2.1, (a0.2.2.2.2.1.length : Int), (0 : Int), a0.1, a0.2.1, a0.2.2.1, a0.2.2.2.1, a0.2.2.2.2.1, a0.2.2.2.2.2.1, a0.2.2.2.2.2.2.1, a0.2.2.2.2.2.2.2, y2)).bind fun z3 => ((impl_plan_num_61bd_p [(z3.2.2.2.2.2.2.2.2.1.length : Int)] z3.2.2.2.2.2.2.2.2.2.2.2).bind2 (fun y4 => ((par_loop impl_TxnText_bp2 Fuel (z3.2.2.2.2.2.2.2.2.1, (z3.2.2.2.2.2.2.2.2.1.length : Int), (0 : Int), z3.2.2.2.1, z3.2.2.2.2.1, z3.2.2.2.2.2.1, z3.2.2.2.2.2.2.1, z3.2.2.2.2.2.2.2.1, z3.2.2.2.2.2.2.2.2.1, z3.2.2.2.2.2.2.2.2.2.1, z3.2.2.2.2.2.2.2.2.2.2.1, y4)).bind fun z5 => ((impl_plan_flag_p z5.2.2.2.2.2.2.2.2.2.1 z5.2.2.2.2.2.2.2.2.2.2.2).bind fun y6 => ((impl_plan_text_p [z5.2.2.2.2.2.2.2.2.2.2.1] y6).bind2 (fun y7 => (par_ret _)) (fun y8 => (par_ret _)))))) (fun y9 => ((par_loop impl_TxnText_bp2 Fuel (z3.2.2.2.2.2.2.2.2.1, (z3.2.2.2.2.2.2.2.2.1.length : Int), (0 : Int), z3.2.2.2.1, z3.2.2.2.2.1, z3.2.2.2.2.2.1, z3.2.2.2.2.2.2.1, z3.2.2.2.2.2.2.2.1, z3.2.2.2.2.2.2.2.2.1, z3.2.2.2.2.2.2.2.2.2.1, z3.2.2.2.2.2.2.2.2.2.2.1, y9)).bind fun z10 => ((impl_plan_flag_p z10.2.2.2.2.2.2.2.2.2.1 z10.2.2.2.2.2.2.2.2.2.2.2).bind fun y11 => ((impl_plan_text_p [z10.2.2.2.2.2.2.2.2.2.2.1] y11).bind2 (fun y12 => (par_ret _)) (fun y13 => (par_ret _)))))))))))

def impl_sameText_d (a0 : dTxn) (a1 : dTxn) (k : Bool → Option Res) : Option Res :=
  impl_TxnText_k a0 (fun y1 =>
    impl_TxnText_k a1 (fun y2 =>
      bif (y1.2 == y2.2) then
        k (strEq y1.1 y2.1)
      else
        k false))

theorem impl_sameText_h : ∃ g : dTxn → dTxn → (Bool → Option Res) → Option Res, g = impl_sameText_d := ⟨_, rfl⟩
def impl_sameText_k : dTxn → dTxn → (Bool → Option Res) → Option Res := Classical.choose impl_sameText_h
theorem impl_sameText_e : impl_sameText_k = impl_sameText_d := Classical.choose_spec impl_sameText_h

theorem impl_sameText_p (a0 : dTxn) (a1 : dTxn) : Par (impl_sameText_k a0 a1) := by
  rw [impl_sameText_e]
  unfold impl_sameText_d
  exact ((impl_TxnText_p a0).bind fun y1 => ((impl_TxnText_p a1).bind fun y2 => (par_bif (par_ret _) (par_ret _))))

def slices_EqualFunc_Txn_sameText_b0 (x : q10T) (k : q10T ⊕ (q10T ⊕ q10T) → Option Res) : Option Res :=
    bif (decide (x.2.2.2.2 < x.2.2.2.1)) then
      if 0 ≤ x.2.2.2.2 ∧ x.2.2.2.2 < (x.2.2.1.length : Int) then
        if 0 ≤ x.2.2.2.2 ∧ x.2.2.2.2 < (x.1.length : Int) then
          impl_sameText_k (rd (Ty.zero tTxn) x.2.2.1 x.2.2.2.2) (rd (Ty.zero tTxn) x.1 x.2.2.2.2) (fun y3 =>
            bif (!y3) then
              k (.inr (.inl (x.1, false, x.2.2.1, x.2.2.2.1, x.2.2.2.2)))
            else
              k (.inl (x.1, x.2.1, x.2.2.1, x.2.2.2.1, (IntKind.wrap .i64 (x.2.2.2.2 + (1 : Int))))))
        else none
      else none
    else
      k (.inr (.inr (x.1, x.2.1, x.2.2.1, x.2.2.2.1, x.2.2.2.2)))

theorem slices_EqualFunc_Txn_sameText_bp0 (x : q10T) : Par (slices_EqualFunc_Txn_sameText_b0 x) := by
  unfold slices_EqualFunc_Txn_sameText_b0
  exact (par_bif (par_ite (c := 0 ≤ x.2.2.2.2 ∧ x.2.2.2.2 < (x.2.2.1.length : Int)) (par_ite (c := 0 ≤ x.2.2.2.2 ∧ x.2.2.2.2 < (x.1.length : Int)) ((impl_sameText_p (rd (Ty.zero tTxn) x.2.2.1 x.2.2.2.2) (rd (Ty.zero tTxn) x.1 x.2.2.2.2)).bind fun y3 => (par_bif (par_ret _) (par_ret _))) par_none) par_none) (par_ret _))

def slices_EqualFunc_Txn_sameText_d (a0 : (List dTxn)) (a1 : (List dTxn)) (k : Bool → Option Res) : Option Res :=
  bif ((a0.length : Int) != (a1.length : Int)) then
    k false
  else
    loopK slices_EqualFunc_Txn_sameText_b0 Fuel (a1, false, a0, (a0.length : Int), (0 : Int)) (Sum.elim (fun z1 =>
      k z1.2.1) (fun _ =>
      k true))

theorem slices_EqualFunc_Txn_sameText_h : ∃ g : (List dTxn) → (List dTxn) → (Bool → Option Res) → Option Res, g = slices_EqualFunc_Txn_sameText_d := ⟨_, rfl⟩
def slices_EqualFunc_Txn_sameText_k : (List dTxn) → (List dTxn) → (Bool → Option Res) → Option Res := Classical.choose slices_EqualFunc_Txn_sameText_h
theorem slices_EqualFunc_Txn_sameText_e : slices_EqualFunc_Txn_sameText_k = slices_EqualFunc_Txn_sameText_d := Classical.choose_spec slices_EqualFunc_Txn_sameText_h

theorem slices_EqualFunc_Txn_sameText_p (a0 : (List dTxn)) (a1 : (List dTxn)) : Par (slices_EqualFunc_Txn_sameText_k a0 a1) := by
  rw [slices_EqualFunc_Txn_sameText_e]
  unfold slices_EqualFunc_Txn_sameText_d
  exact (par_bif (par_ret _) ((par_loop slices_EqualFunc_Txn_sameText_bp0 Fuel (a1, false, a0, (a0.length : Int), (0 : Int))).bind2 (fun z1 => (par_ret _)) (fun z2 => (par_ret _))))

def slices_Grow_Version_vn_d (a0 : Int) (k : (List dVersion) → Option Res) : Option Res :=
  bif (decide (a0 < (0 : Int))) then
    none
  else
    bif (decide ((IntKind.wrap .i64 (a0 - (IntKind.wrap .i64 ((0 : Int) - (0 : Int))))) > (0 : Int))) then
      if 0 ≤ (0 : Int) ∧ (0 : Int) ≤ (0 : Int) ∧ (0 : Int) ≤ 0 then
        if 0 ≤ (IntKind.wrap .i64 (a0 - (IntKind.wrap .i64 ((0 : Int) - (0 : Int))))) ∧ (IntKind.wrap .i64 (a0 - (IntKind.wrap .i64 ((0 : Int) - (0 : Int))))) ≤ (VE.maxLen : Int) then
          if 0 ≤ (0 : Int) ∧ (0 : Int) ≤ ((List.replicate (IntKind.wrap .i64 (a0 - (IntKind.wrap .i64 ((0 : Int) - (0 : Int))))).toNat (Ty.zero tVersion)).length : Int) then
            k ((List.replicate (IntKind.wrap .i64 (a0 - (IntKind.wrap .i64 ((0 : Int) - (0 : Int))))).toNat (Ty.zero tVersion)).take (0 : Int).toNat)
          else none
        else none
      else none
    else
      k ([] : List dVersion)

theorem slices_Grow_Version_vn_h : ∃ g : Int → ((List dVersion) → Option Res) → Option Res, g = slices_Grow_Version_vn_d := ⟨_, rfl⟩
def slices_Grow_Version_vn_k : Int → ((List dVersion) → Option Res) → Option Res := Classical.choose slices_Grow_Version_vn_h
theorem slices_Grow_Version_vn_e : slices_Grow_Version_vn_k = slices_Grow_Version_vn_d := Classical.choose_spec slices_Grow_Version_vn_h

theorem slices_Grow_Version_vn_p (a0 : Int) : Par (slices_Grow_Version_vn_k a0) := by
  rw [slices_Grow_Version_vn_e]
  unfold slices_Grow_Version_vn_d
  exact (par_bif par_none (par_bif (par_ite (c := 0 ≤ (0 : Int) ∧ (0 : Int) ≤ (0 : Int) ∧ (0 : Int) ≤ 0) (par_ite (c := 0 ≤ (IntKind.wrap .i64 (a0 - (IntKind.wrap .i64 ((0 : Int) - (0 : Int))))) ∧ (IntKind.wrap .i64 (a0 - (IntKind.wrap .i64 ((0 : Int) - (0 : Int))))) ≤ (VE.maxLen : Int)) (par_ite (c := 0 ≤ (0 : Int) ∧ (0 : Int) ≤ ((List.replicate (IntKind.wrap .i64 (a0 - (IntKind.wrap .i64 ((0 : Int) - (0 : Int))))).toNat (Ty.zero tVersion)).length : Int)) (par_ret _) par_none) par_none) par_none) (par_ret _)))

def slices_Concat_Version_b0 (x : q0T) (k : q0T ⊕ q0T → Option Res) : Option Res :=
    bif (decide (x.2.2.2.2 < x.2.2.2.1)) then
      if 0 ≤ x.2.2.2.2 ∧ x.2.2.2.2 < (x.2.2.1.length : Int) then
        bif (decide ((IntKind.wrap .i64 (x.2.1 + ((rd (Ty.zero (.slice tVersion)) x.2.2.1 x.2.2.2.2).length : Int))) < (0 : Int))) then
          none
        else
          k (.inl (x.1, (IntKind.wrap .i64 (x.2.1 + ((rd (Ty.zero (.slice tVersion)) x.2.2.1 x.2.2.2.2).length : Int))), x.2.2.1, x.2.2.2.1, (IntKind.wrap .i64 (x.2.2.2.2 + (1 : Int)))))
      else none
    else
      k (.inr (x.1, x.2.1, x.2.2.1, x.2.2.2.1, x.2.2.2.2))

theorem slices_Concat_Version_bp0 (x : q0T) : Par (slices_Concat_Version_b0 x) := by
  unfold slices_Concat_Version_b0
  exact (par_bif (par_ite (c := 0 ≤ x.2.2.2.2 ∧ x.2.2.2.2 < (x.2.2.1.length : Int)) (par_bif par_none (par_ret _)) par_none) (par_ret _))

def slices_Concat_Version_b2 (x : q1T) (k : q1T ⊕ q1T → Option Res) : Option Res :=
    bif (decide (x.2.2.1 < x.2.1)) then
      if 0 ≤ x.2.2.1 ∧ x.2.2.1 < (x.1.length : Int) then
        if x.2.2.2.length + (rd (Ty.zero (.slice tVersion)) x.1 x.2.2.1).length ≤ VE.maxLen then
          k (.inl (x.1, x.2.1, (IntKind.wrap .i64 (x.2.2.1 + (1 : Int))), (x.2.2.2 ++ (rd (Ty.zero (.slice tVersion)) x.1 x.2.2.1))))
        else none
      else none
    else
      k (.inr (x.1, x.2.1, x.2.2.1, x.2.2.2))

theorem slices_Concat_Version_bp2 (x : q1T) : Par (slices_Concat_Version_b2 x) := by
  unfold slices_Concat_Version_b2
  exact (par_bif (par_ite (c := 0 ≤ x.2.2.1 ∧ x.2.2.1 < (x.1.length : Int)) (par_ite (c := x.2.2.2.length + (rd (Ty.zero (.slice tVersion)) x.1 x.2.2.1).length ≤ VE.maxLen) (par_ret _) par_none) par_none) (par_ret _))

def slices_Concat_Version_d (a0 : (List (List dVersion))) (k : (List dVersion) → Option Res) : Option Res :=
  loopK slices_Concat_Version_b0 Fuel (a0, (0 : Int), a0, (a0.length : Int), (0 : Int)) (fun z1 =>
    slices_Grow_Version_vn_k z1.2.1 (fun y2 =>
      loopK slices_Concat_Version_b2 Fuel (z1.1, (z1.1.length : Int), (0 : Int), y2) (fun z3 =>
        k z3.2.2.2)))

theorem slices_Concat_Version_h : ∃ g : (List (List dVersion)) → ((List dVersion) → Option Res) → Option Res, g = slices_Concat_Version_d := ⟨_, rfl⟩
def slices_Concat_Version_k : (List (List dVersion)) → ((List dVersion) → Option Res) → Option Res := Classical.choose slices_Concat_Version_h
theorem slices_Concat_Version_e : slices_Concat_Version_k = slices_Concat_Version_d := Classical.choose_spec slices_Concat_Version_h

theorem slices_Concat_Version_p (a0 : (List (List dVersion))) : Par (slices_Concat_Version_k a0) := by
  rw [slices_Concat_Version_e]
  unfold slices_Concat_Version_d
  exact ((par_loop slices_Concat_Version_bp0 Fuel (a0, (0 : Int), a0, (a0.length : Int), (0 : Int))).bind fun z1 => ((slices_Grow_Version_vn_p z1.2.1).bind fun y2 => ((par_loop slices_Concat_Version_bp2 Fuel (z1.1, (z1.1.length : Int), (0 : Int), y2)).bind fun z3 => (par_ret _))))

def impl_allKeys_d  (k : (ByteArray × ByteArray) → Option Res) : Option Res :=
  k ((⟨#[97]⟩ : ByteArray), (⟨#[122, 122, 122]⟩ : ByteArray))

theorem impl_allKeys_h : ∃ g : ((ByteArray × ByteArray) → Option Res) → Option Res, g = impl_allKeys_d := ⟨_, rfl⟩
def impl_allKeys_k : ((ByteArray × ByteArray) → Option Res) → Option Res := Classical.choose impl_allKeys_h
theorem impl_allKeys_e : impl_allKeys_k = impl_allKeys_d := Classical.choose_spec impl_allKeys_h

theorem impl_allKeys_p  : Par (impl_allKeys_k ) := by
  rw [impl_allKeys_e]
  unfold impl_allKeys_d
  exact (par_ret _)

def slices_Sort_string_vo_d (a0 : (List ByteArray)) (k : (List ByteArray) → Option Res) : Option Res :=
  if a0.length ≤ 1000000000 then
    k (sortL a0)
  else none

theorem slices_Sort_string_vo_h : ∃ g : (List ByteArray) → ((List ByteArray) → Option Res) → Option Res, g = slices_Sort_string_vo_d := ⟨_, rfl⟩
def slices_Sort_string_vo_k : (List ByteArray) → ((List ByteArray) → Option Res) → Option Res := Classical.choose slices_Sort_string_vo_h
theorem slices_Sort_string_vo_e : slices_Sort_string_vo_k = slices_Sort_string_vo_d := Classical.choose_spec slices_Sort_string_vo_h

theorem slices_Sort_string_vo_p (a0 : (List ByteArray)) : Par (slices_Sort_string_vo_k a0) := by
  rw [slices_Sort_string_vo_e]
  unfold slices_Sort_string_vo_d
  exact (par_ite (c := a0.length ≤ 1000000000) (par_ret _) par_none)

def slices_Compact_string_vo_b2 (x : (Int × Nat × Int × (List ByteArray))) (k : (Int × Nat × Int × (List ByteArray)) ⊕ (Int × Nat × Int × (List ByteArray)) → Option Res) : Option Res :=
    bif (decide (x.2.2.1 < ((x.2.2.2.length : Int) - ((x.2.1 : Nat) : Int)))) then
      if 0 ≤ x.2.2.1 ∧ x.2.2.1 < (x.2.2.2.length : Int) - ((x.2.1 : Nat) : Int) then
        if 0 ≤ (IntKind.wrap .i64 (x.2.2.1 - (1 : Int))) ∧ (IntKind.wrap .i64 (x.2.2.1 - (1 : Int))) < (x.2.2.2.length : Int) - ((x.2.1 : Nat) : Int) then
          bif (!(strEq (x.2.2.2.getD (x.2.1 + x.2.2.1.toNat) (Ty.zero .str)) (x.2.2.2.getD (x.2.1 + (IntKind.wrap .i64 (x.2.2.1 - (1 : Int))).toNat) (Ty.zero .str)))) then
            if 0 ≤ x.2.2.1 ∧ x.2.2.1 < (x.2.2.2.length : Int) - ((x.2.1 : Nat) : Int) then
              if 0 ≤ x.1 ∧ x.1 < (x.2.2.2.length : Int) then
                k (.inl ((IntKind.wrap .i64 (x.1 + (1 : Int))), x.2.1, (IntKind.wrap .i64 (x.2.2.1 + (1 : Int))), (x.2.2.2.set x.1.toNat (x.2.2.2.getD (x.2.1 + x.2.2.1.toNat) (Ty.zero .str)))))
              else none
            else none
          else
            k (.inl (x.1, x.2.1, (IntKind.wrap .i64 (x.2.2.1 + (1 : Int))), x.2.2.2))
        else none
      else none
    else
      k (.inr (x.1, x.2.1, x.2.2.1, x.2.2.2))

theorem slices_Compact_string_vo_bp2 (x : (Int × Nat × Int × (List ByteArray))) : Par (slices_Compact_string_vo_b2 x) := by
  unfold slices_Compact_string_vo_b2
  exact (par_bif (par_ite (c := 0 ≤ x.2.2.1 ∧ x.2.2.1 < (x.2.2.2.length : Int) - ((x.2.1 : Nat) : Int)) (par_ite (c := 0 ≤ (IntKind.wrap .i64 (x.2.2.1 - (1 : Int))) ∧ (IntKind.wrap .i64 (x.2.2.1 - (1 : Int))) < (x.2.2.2.length : Int) - ((x.2.1 : Nat) : Int)) (par_bif (par_ite (c := 0 ≤ x.2.2.1 ∧ x.2.2.1 < (x.2.2.2.length : Int) - ((x.2.1 : Nat) : Int)) (par_ite (c := 0 ≤ x.1 ∧ x.1 < (x.2.2.2.length : Int)) (par_ret _) par_none) par_none) (par_ret _)) par_none) par_none) (par_ret _))

def slices_Compact_string_vo_b0 (x : q36T) (k : q36T ⊕ (q36T ⊕ (Int × (List ByteArray))) → Option Res) : Option Res :=
    bif (decide (x.1 < (x.2.1.length : Int))) then
      if 0 ≤ x.1 ∧ x.1 < (x.2.1.length : Int) then
        if 0 ≤ (IntKind.wrap .i64 (x.1 - (1 : Int))) ∧ (IntKind.wrap .i64 (x.1 - (1 : Int))) < (x.2.1.length : Int) then
          bif (strEq (x.2.1.getD x.1.toNat (Ty.zero .str)) (x.2.1.getD (IntKind.wrap .i64 (x.1 - (1 : Int))).toNat (Ty.zero .str))) then
            if 0 ≤ x.1 ∧ x.1 ≤ (x.2.1.length : Int) then
              loopK slices_Compact_string_vo_b2 Fuel (x.1, x.1.toNat, (1 : Int), x.2.1) (fun z3 =>
                if 0 ≤ z3.1 ∧ z3.1 ≤ (z3.2.2.2.length : Int) then
                  if 0 ≤ z3.1 ∧ z3.1 ≤ ((z3.2.2.2.take z3.1.toNat ++ List.replicate (z3.2.2.2.length - z3.1.toNat) (Ty.zero .str)).length : Int) then
                    k (.inr (.inr (z3.1, ((z3.2.2.2.take z3.1.toNat ++ List.replicate (z3.2.2.2.length - z3.1.toNat) (Ty.zero .str)).take z3.1.toNat))))
                  else none
                else none)
            else none
          else
            k (.inl ((IntKind.wrap .i64 (x.1 + (1 : Int))), x.2.1, x.2.2))
        else none
      else none
    else
      k (.inr (.inl (x.1, x.2.1, x.2.2)))

theorem slices_Compact_string_vo_bp0 (x : q36T) : Par (slices_Compact_string_vo_b0 x) := by
  unfold slices_Compact_string_vo_b0
  exact (par_bif (par_ite (c := 0 ≤ x.1 ∧ x.1 < (x.2.1.length : Int)) (par_ite (c := 0 ≤ (IntKind.wrap .i64 (x.1 - (1 : Int))) ∧ (IntKind.wrap .i64 (x.1 - (1 : Int))) < (x.2.1.length : Int)) (par_bif (par_ite (c := 0 ≤ x.1 ∧ x.1 ≤ (x.2.1.length : Int)) ((par_loop slices_Compact_string_vo_bp2 Fuel (x.1, x.1.toNat, (1 : Int), x.2.1)).bind fun z3 => (par_ite (c := 0 ≤ z3.1 ∧ z3.1 ≤ (z3.2.2.2.length : Int)) (par_ite (c := 0 ≤ z3.1 ∧ z3.1 ≤ ((z3.2.2.2.take z3.1.toNat ++ List.replicate (z3.2.2.2.length - z3.1.toNat) (Ty.zero .str)).length : Int)) (par_ret _) par_none) par_none)) par_none) (par_ret _)) par_none) par_none) (par_ret _))

def slices_Compact_string_vo_d (a0 : (List ByteArray)) (k : ((List ByteArray) ⊕ (List ByteArray)) → Option Res) : Option Res :=
  bif (decide ((a0.length : Int) < (2 : Int))) then
    k (.inl a0)
  else
    loopK slices_Compact_string_vo_b0 Fuel ((1 : Int), a0, ([] : List ByteArray)) (Sum.elim (fun z1 =>
      k (.inl z1.2.1)) (fun z2 =>
      k (.inr z2.2)))

theorem slices_Compact_string_vo_h : ∃ g : (List ByteArray) → (((List ByteArray) ⊕ (List ByteArray)) → Option Res) → Option Res, g = slices_Compact_string_vo_d := ⟨_, rfl⟩
def slices_Compact_string_vo_k : (List ByteArray) → (((List ByteArray) ⊕ (List ByteArray)) → Option Res) → Option Res := Classical.choose slices_Compact_string_vo_h
theorem slices_Compact_string_vo_e : slices_Compact_string_vo_k = slices_Compact_string_vo_d := Classical.choose_spec slices_Compact_string_vo_h

theorem slices_Compact_string_vo_p (a0 : (List ByteArray)) : Par (slices_Compact_string_vo_k a0) := by
  rw [slices_Compact_string_vo_e]
  unfold slices_Compact_string_vo_d
  exact (par_bif (par_ret _) ((par_loop slices_Compact_string_vo_bp0 Fuel ((1 : Int), a0, ([] : List ByteArray))).bind2 (fun z1 => (par_ret _)) (fun z2 => (par_ret _))))

def impl_keysOf_b0 (x : q21T) (k : q21T ⊕ q21T → Option Res) : Option Res :=
    bif (decide (x.2.2.1 < x.2.1)) then
      if 0 ≤ x.2.2.1 ∧ x.2.2.1 < (x.1.length : Int) then
        if x.2.2.2.length + [(rd (Ty.zero tVersion) x.1 x.2.2.1).1].length ≤ VE.maxLen then
          k (.inl (x.1, x.2.1, (IntKind.wrap .i64 (x.2.2.1 + (1 : Int))), (x.2.2.2 ++ [(rd (Ty.zero tVersion) x.1 x.2.2.1).1])))
        else none
      else none
    else
      k (.inr (x.1, x.2.1, x.2.2.1, x.2.2.2))

theorem impl_keysOf_bp0 (x : q21T) : Par (impl_keysOf_b0 x) := by
  unfold impl_keysOf_b0
  exact (par_bif (par_ite (c := 0 ≤ x.2.2.1 ∧ x.2.2.1 < (x.1.length : Int)) (par_ite (c := x.2.2.2.length + [(rd (Ty.zero tVersion) x.1 x.2.2.1).1].length ≤ VE.maxLen) (par_ret _) par_none) par_none) (par_ret _))

def impl_keysOf_d (a0 : (List dVersion)) (k : (List ByteArray) → Option Res) : Option Res :=
  loopK impl_keysOf_b0 Fuel (a0, (a0.length : Int), (0 : Int), ([] : List ByteArray)) (fun z1 =>
    slices_Sort_string_vo_k z1.2.2.2 (fun y2 =>
      slices_Compact_string_vo_k y2 (Sum.elim (fun y3 =>
        k y3) (fun y4 =>
        k y4))))

theorem impl_keysOf_h : ∃ g : (List dVersion) → ((List ByteArray) → Option Res) → Option Res, g = impl_keysOf_d := ⟨_, rfl⟩
def impl_keysOf_k : (List dVersion) → ((List ByteArray) → Option Res) → Option Res := Classical.choose impl_keysOf_h
theorem impl_keysOf_e : impl_keysOf_k = impl_keysOf_d := Classical.choose_spec impl_keysOf_h

theorem impl_keysOf_p (a0 : (List dVersion)) : Par (impl_keysOf_k a0) := by
  rw [impl_keysOf_e]
  unfold impl_keysOf_d
  exact ((par_loop impl_keysOf_bp0 Fuel (a0, (a0.length : Int), (0 : Int), ([] : List ByteArray))).bind fun z1 => ((slices_Sort_string_vo_p z1.2.2.2).bind fun y2 => ((slices_Compact_string_vo_p y2).bind2 (fun y3 => (par_ret _)) (fun y4 => (par_ret _)))))

def impl_lastAt_b0 (x : q16T) (k : q16T ⊕ q16T → Option Res) : Option Res :=
    bif (decide (x.2.2.2.2.2.2 < x.2.2.2.2.2.1)) then
      if 0 ≤ x.2.2.2.2.2.2 ∧ x.2.2.2.2.2.2 < (x.2.2.2.2.1.length : Int) then
        bif (strEq ((rd (Ty.zero tVersion) x.2.2.2.2.1 x.2.2.2.2.2.2).1) x.2.1) then
          bif (decide ((rd (Ty.zero tVersion) x.2.2.2.2.1 x.2.2.2.2.2.2).2.2.2 ≤ x.2.2.1)) then
            bif (decide (x.2.2.2.1 < (0 : Int))) then
              k (.inl (x.1, x.2.1, x.2.2.1, x.2.2.2.2.2.2, x.2.2.2.2.1, x.2.2.2.2.2.1, (IntKind.wrap .i64 (x.2.2.2.2.2.2 + (1 : Int)))))
            else
              if 0 ≤ x.2.2.2.1 ∧ x.2.2.2.1 < (x.1.length : Int) then
                bif (decide ((rd (Ty.zero tVersion) x.2.2.2.2.1 x.2.2.2.2.2.2).2.2.2 > (rd (Ty.zero tVersion) x.1 x.2.2.2.1).2.2.2)) then
                  k (.inl (x.1, x.2.1, x.2.2.1, x.2.2.2.2.2.2, x.2.2.2.2.1, x.2.2.2.2.2.1, (IntKind.wrap .i64 (x.2.2.2.2.2.2 + (1 : Int)))))
                else
                  k (.inl (x.1, x.2.1, x.2.2.1, x.2.2.2.1, x.2.2.2.2.1, x.2.2.2.2.2.1, (IntKind.wrap .i64 (x.2.2.2.2.2.2 + (1 : Int)))))
              else none
          else
            k (.inl (x.1, x.2.1, x.2.2.1, x.2.2.2.1, x.2.2.2.2.1, x.2.2.2.2.2.1, (IntKind.wrap .i64 (x.2.2.2.2.2.2 + (1 : Int)))))
        else
          k (.inl (x.1, x.2.1, x.2.2.1, x.2.2.2.1, x.2.2.2.2.1, x.2.2.2.2.2.1, (IntKind.wrap .i64 (x.2.2.2.2.2.2 + (1 : Int)))))
      else none
    else
      k (.inr (x.1, x.2.1, x.2.2.1, x.2.2.2.1, x.2.2.2.2.1, x.2.2.2.2.2.1, x.2.2.2.2.2.2))

theorem impl_lastAt_bp0 (x : q16T) : Par (impl_lastAt_b0 x) := by
  unfold impl_lastAt_b0
  exact (par_bif (par_ite (c := 0 ≤ x.2.2.2.2.2.2 ∧ x.2.2.2.2.2.2 < (x.2.2.2.2.1.length : Int)) (par_bif (par_bif (par_bif (par_ret _) (par_ite (c := 0 ≤ x.2.2.2.1 ∧ x.2.2.2.1 < (x.1.length : Int)) (par_bif (par_ret _) (par_ret _)) par_none)) (par_ret _)) (par_ret _)) par_none) (par_ret _))

def impl_lastAt_d (a0 : (List dVersion)) (a1 : ByteArray) (a2 : Int) (k : Int → Option Res) : Option Res :=
  loopK impl_lastAt_b0 Fuel (a0, a1, a2, (-1 : Int), a0, (a0.length : Int), (0 : Int)) (fun z1 =>
    k z1.2.2.2.1)

theorem impl_lastAt_h : ∃ g : (List dVersion) → ByteArray → Int → (Int → Option Res) → Option Res, g = impl_lastAt_d := ⟨_, rfl⟩
def impl_lastAt_k : (List dVersion) → ByteArray → Int → (Int → Option Res) → Option Res := Classical.choose impl_lastAt_h
theorem impl_lastAt_e : impl_lastAt_k = impl_lastAt_d := Classical.choose_spec impl_lastAt_h

theorem impl_lastAt_p (a0 : (List dVersion)) (a1 : ByteArray) (a2 : Int) : Par (impl_lastAt_k a0 a1 a2) := by
  rw [impl_lastAt_e]
  unfold impl_lastAt_d
  exact ((par_loop impl_lastAt_bp0 Fuel (a0, a1, a2, (-1 : Int), a0, (a0.length : Int), (0 : Int))).bind fun z1 => (par_ret _))

def impl_SeenAt_d (a0 : (List dVersion)) (a1 : ByteArray) (a2 : Int) (k : (ByteArray × Bool) → Option Res) : Option Res :=
  impl_lastAt_k a0 a1 a2 (fun y1 =>
    bif (decide (y1 < (0 : Int))) then
      k ((⟨#[]⟩ : ByteArray), false)
    else
      if 0 ≤ y1 ∧ y1 < (a0.length : Int) then
        bif (rd (Ty.zero tVersion) a0 y1).2.2.1 then
          k ((⟨#[]⟩ : ByteArray), false)
        else
          if 0 ≤ y1 ∧ y1 < (a0.length : Int) then
            k ((rd (Ty.zero tVersion) a0 y1).2.1, true)
          else none
      else none)

theorem impl_SeenAt_h : ∃ g : (List dVersion) → ByteArray → Int → ((ByteArray × Bool) → Option Res) → Option Res, g = impl_SeenAt_d := ⟨_, rfl⟩
def impl_SeenAt_k : (List dVersion) → ByteArray → Int → ((ByteArray × Bool) → Option Res) → Option Res := Classical.choose impl_SeenAt_h
theorem impl_SeenAt_e : impl_SeenAt_k = impl_SeenAt_d := Classical.choose_spec impl_SeenAt_h

theorem impl_SeenAt_p (a0 : (List dVersion)) (a1 : ByteArray) (a2 : Int) : Par (impl_SeenAt_k a0 a1 a2) := by
  rw [impl_SeenAt_e]
  unfold impl_SeenAt_d
  exact ((impl_lastAt_p a0 a1 a2).bind fun y1 => (par_bif (par_ret _) (par_ite (c := 0 ≤ y1 ∧ y1 < (a0.length : Int)) (par_bif (par_ret _) (par_ite (c := 0 ≤ y1 ∧ y1 < (a0.length : Int)) (par_ret _) par_none)) par_none)))

def impl_InRange_d (a0 : dRange) (a1 : ByteArray) (k : Bool → Option Res) : Option Res :=
  bif (!(strLess a1 a0.1)) then
    k ((strLess a1 a0.2) || (strEq a1 a0.2))
  else
    k false

theorem impl_InRange_h : ∃ g : dRange → ByteArray → (Bool → Option Res) → Option Res, g = impl_InRange_d := ⟨_, rfl⟩
def impl_InRange_k : dRange → ByteArray → (Bool → Option Res) → Option Res := Classical.choose impl_InRange_h
theorem impl_InRange_e : impl_InRange_k = impl_InRange_d := Classical.choose_spec impl_InRange_h

theorem impl_InRange_p (a0 : dRange) (a1 : ByteArray) : Par (impl_InRange_k a0 a1) := by
  rw [impl_InRange_e]
  unfold impl_InRange_d
  exact (par_bif (par_ret _) (par_ret _))

def impl_ScanAt_b0 (x : q23T) (k : q23T ⊕ q23T → Option Res) : Option Res :=
    bif (decide (x.2.2.2.1 < x.2.2.1)) then
      if 0 ≤ x.2.2.2.1 ∧ x.2.2.2.1 < (x.2.2.2.2.2.2.2.length : Int) then
        impl_SeenAt_k x.1 (x.2.2.2.2.2.2.2.getD x.2.2.2.1.toNat (Ty.zero .str)) x.2.1 (fun y3 =>
          bif y3.2 then
            impl_InRange_k (x.2.2.2.2.1, x.2.2.2.2.2.1) (x.2.2.2.2.2.2.2.getD x.2.2.2.1.toNat (Ty.zero .str)) (fun y4 =>
              bif y4 then
                if x.2.2.2.2.2.2.1.length + [((x.2.2.2.2.2.2.2.getD x.2.2.2.1.toNat (Ty.zero .str)), y3.1)].length ≤ VE.maxLen then
                  k (.inl (x.1, x.2.1, x.2.2.1, (IntKind.wrap .i64 (x.2.2.2.1 + (1 : Int))), x.2.2.2.2.1, x.2.2.2.2.2.1, (x.2.2.2.2.2.2.1 ++ [((x.2.2.2.2.2.2.2.getD x.2.2.2.1.toNat (Ty.zero .str)), y3.1)]), x.2.2.2.2.2.2.2))
                else none
              else
                k (.inl (x.1, x.2.1, x.2.2.1, (IntKind.wrap .i64 (x.2.2.2.1 + (1 : Int))), x.2.2.2.2.1, x.2.2.2.2.2.1, x.2.2.2.2.2.2.1, x.2.2.2.2.2.2.2)))
          else
            k (.inl (x.1, x.2.1, x.2.2.1, (IntKind.wrap .i64 (x.2.2.2.1 + (1 : Int))), x.2.2.2.2.1, x.2.2.2.2.2.1, x.2.2.2.2.2.2.1, x.2.2.2.2.2.2.2)))
      else none
    else
      k (.inr (x.1, x.2.1, x.2.2.1, x.2.2.2.1, x.2.2.2.2.1, x.2.2.2.2.2.1, x.2.2.2.2.2.2.1, x.2.2.2.2.2.2.2))

theorem impl_ScanAt_bp0 (x : q23T) : Par (impl_ScanAt_b0 x) := by
  unfold impl_ScanAt_b0
  exact (par_bif (par_ite (c := 0 ≤ x.2.2.2.1 ∧ x.2.2.2.1 < (x.2.2.2.2.2.2.2.length : Int)) ((impl_SeenAt_p x.1 (x.2.2.2.2.2.2.2.getD x.2.2.2.1.toNat (Ty.zero .str)) x.2.1).bind fun y3 => (par_bif ((impl_InRange_p (x.2.2.2.2.1, x.2.2.2.2.2.1) (x.2.2.2.2.2.2.2.getD x.2.2.2.1.toNat (Ty.zero .str))).bind fun y4 => (par_bif (par_ite (c := x.2.2.2.2.2.2.1.length + [((x.2.2.2.2.2.2.2.getD x.2.2.2.1.toNat (Ty.zero .str)), y3.1)].length ≤ VE.maxLen) (par_ret _) par_none) (par_ret _))) (par_ret _))) par_none) (par_ret _))

def impl_ScanAt_d (a0 : (List dVersion)) (a1 : dRange) (a2 : Int) (k : (List dRange) → Option Res) : Option Res :=
  impl_keysOf_k a0 (fun y1 =>
    loopK impl_ScanAt_b0 Fuel (a0, a2, (y1.length : Int), (0 : Int), a1.1, a1.2, ([] : List dRange), y1) (fun z2 =>
      k z2.2.2.2.2.2.2.1))

theorem impl_ScanAt_h : ∃ g : (List dVersion) → dRange → Int → ((List dRange) → Option Res) → Option Res, g = impl_ScanAt_d := ⟨_, rfl⟩
def impl_ScanAt_k : (List dVersion) → dRange → Int → ((List dRange) → Option Res) → Option Res := Classical.choose impl_ScanAt_h
theorem impl_ScanAt_e : impl_ScanAt_k = impl_ScanAt_d := Classical.choose_spec impl_ScanAt_h

theorem impl_ScanAt_p (a0 : (List dVersion)) (a1 : dRange) (a2 : Int) : Par (impl_ScanAt_k a0 a1 a2) := by
  rw [impl_ScanAt_e]
  unfold impl_ScanAt_d
  exact ((impl_keysOf_p a0).bind fun y1 => ((par_loop impl_ScanAt_bp0 Fuel (a0, a2, (y1.length : Int), (0 : Int), a1.1, a1.2, ([] : List dRange), y1)).bind fun z2 => (par_ret _)))

def slices_Equal_Pair_b0 (x : q4T) (k : q4T ⊕ (q4T ⊕ q4T) → Option Res) : Option Res :=
    bif (decide (x.2.2.2.2 < x.2.2.2.1)) then
      if 0 ≤ x.2.2.2.2 ∧ x.2.2.2.2 < (x.1.length : Int) then
        if 0 ≤ x.2.2.2.2 ∧ x.2.2.2.2 < (x.2.1.length : Int) then
          bif (!(Ty.eqB tRange (rd (Ty.zero tRange) x.1 x.2.2.2.2) (rd (Ty.zero tRange) x.2.1 x.2.2.2.2))) then
            k (.inr (.inl (x.1, x.2.1, false, x.2.2.2.1, x.2.2.2.2)))
          else
            k (.inl (x.1, x.2.1, x.2.2.1, x.2.2.2.1, (IntKind.wrap .i64 (x.2.2.2.2 + (1 : Int)))))
        else none
      else none
    else
      k (.inr (.inr (x.1, x.2.1, x.2.2.1, x.2.2.2.1, x.2.2.2.2)))

theorem slices_Equal_Pair_bp0 (x : q4T) : Par (slices_Equal_Pair_b0 x) := by
  unfold slices_Equal_Pair_b0
  exact (par_bif (par_ite (c := 0 ≤ x.2.2.2.2 ∧ x.2.2.2.2 < (x.1.length : Int)) (par_ite (c := 0 ≤ x.2.2.2.2 ∧ x.2.2.2.2 < (x.2.1.length : Int)) (par_bif (par_ret _) (par_ret _)) par_none) par_none) (par_ret _))

def slices_Equal_Pair_d (a0 : (List dRange)) (a1 : (List dRange)) (k : Bool → Option Res) : Option Res :=
  bif ((a0.length : Int) != (a1.length : Int)) then
    k false
  else
    loopK slices_Equal_Pair_b0 Fuel (a0, a1, false, (a0.length : Int), (0 : Int)) (Sum.elim (fun z1 =>
      k z1.2.2.1) (fun _ =>
      k true))

theorem slices_Equal_Pair_h : ∃ g : (List dRange) → (List dRange) → (Bool → Option Res) → Option Res, g = slices_Equal_Pair_d := ⟨_, rfl⟩
def slices_Equal_Pair_k : (List dRange) → (List dRange) → (Bool → Option Res) → Option Res := Classical.choose slices_Equal_Pair_h
theorem slices_Equal_Pair_e : slices_Equal_Pair_k = slices_Equal_Pair_d := Classical.choose_spec slices_Equal_Pair_h

theorem slices_Equal_Pair_p (a0 : (List dRange)) (a1 : (List dRange)) : Par (slices_Equal_Pair_k a0 a1) := by
  rw [slices_Equal_Pair_e]
  unfold slices_Equal_Pair_d
  exact (par_bif (par_ret _) ((par_loop slices_Equal_Pair_bp0 Fuel (a0, a1, false, (a0.length : Int), (0 : Int))).bind2 (fun z1 => (par_ret _)) (fun z2 => (par_ret _))))

def impl_SameFrom_1_d (a0 : Int) (a1 : (List dVersion)) (a2 : (List dVersion)) (k : q31T → Option Res) : Option Res :=
  impl_allKeys_k  (fun y1 =>
    impl_ScanAt_k a1 y1 a0 (fun y2 =>
      impl_allKeys_k  (fun y3 =>
        impl_ScanAt_k a2 y3 a0 (fun y4 =>
          slices_Equal_Pair_k y2 y4 (fun y5 =>
            k (y5, a1, a2))))))

theorem impl_SameFrom_1_h : ∃ g : Int → (List dVersion) → (List dVersion) → (q31T → Option Res) → Option Res, g = impl_SameFrom_1_d := ⟨_, rfl⟩
def impl_SameFrom_1_k : Int → (List dVersion) → (List dVersion) → (q31T → Option Res) → Option Res := Classical.choose impl_SameFrom_1_h
theorem impl_SameFrom_1_e : impl_SameFrom_1_k = impl_SameFrom_1_d := Classical.choose_spec impl_SameFrom_1_h

theorem impl_SameFrom_1_p (a0 : Int) (a1 : (List dVersion)) (a2 : (List dVersion)) : Par (impl_SameFrom_1_k a0 a1 a2) := by
  rw [impl_SameFrom_1_e]
  unfold impl_SameFrom_1_d
  exact ((impl_allKeys_p ).bind fun y1 => ((impl_ScanAt_p a1 y1 a0).bind fun y2 => ((impl_allKeys_p ).bind fun y3 => ((impl_ScanAt_p a2 y3 a0).bind fun y4 => ((slices_Equal_Pair_p y2 y4).bind fun y5 => (par_ret _))))))

def impl_SameFrom_b0 (x : q37T) (k : q37T ⊕ (q37T ⊕ q37T) → Option Res) : Option Res :=
    bif (decide (x.2.2.2.1 < x.2.2.1)) then
      if 0 ≤ x.2.2.2.1 ∧ x.2.2.2.1 < (x.2.2.2.2.2.2.length : Int) then
        bif (decide ((x.2.2.2.2.2.2.getD x.2.2.2.1.toNat (Ty.zero tVersion)).2.2.2 > x.1)) then
          impl_SameFrom_1_k ((x.2.2.2.2.2.2.getD x.2.2.2.1.toNat (Ty.zero tVersion)).2.2.2) x.2.2.2.2.1 x.2.2.2.2.2.1 (fun y5 =>
            bif (!y5.1) then
              k (.inr (.inl (x.1, false, x.2.2.1, x.2.2.2.1, y5.2.1, y5.2.2, x.2.2.2.2.2.2)))
            else
              k (.inl (x.1, x.2.1, x.2.2.1, (IntKind.wrap .i64 (x.2.2.2.1 + (1 : Int))), y5.2.1, y5.2.2, x.2.2.2.2.2.2)))
        else
          k (.inl (x.1, x.2.1, x.2.2.1, (IntKind.wrap .i64 (x.2.2.2.1 + (1 : Int))), x.2.2.2.2.1, x.2.2.2.2.2.1, x.2.2.2.2.2.2))
      else none
    else
      k (.inr (.inr (x.1, x.2.1, x.2.2.1, x.2.2.2.1, x.2.2.2.2.1, x.2.2.2.2.2.1, x.2.2.2.2.2.2)))

theorem impl_SameFrom_bp0 (x : q37T) : Par (impl_SameFrom_b0 x) := by
  unfold impl_SameFrom_b0
  exact (par_bif (par_ite (c := 0 ≤ x.2.2.2.1 ∧ x.2.2.2.1 < (x.2.2.2.2.2.2.length : Int)) (par_bif ((impl_SameFrom_1_p ((x.2.2.2.2.2.2.getD x.2.2.2.1.toNat (Ty.zero tVersion)).2.2.2) x.2.2.2.2.1 x.2.2.2.2.2.1).bind fun y5 => (par_bif (par_ret _) (par_ret _))) (par_ret _)) par_none) (par_ret _))

def impl_SameFrom_d (a0 : (List dVersion)) (a1 : (List dVersion)) (a2 : Int) (k : Bool → Option Res) : Option Res :=
  slices_Concat_Version_k [a0, a1] (fun y1 =>
    loopK impl_SameFrom_b0 Fuel (a2, false, (y1.length : Int), (0 : Int), a0, a1, y1) (Sum.elim (fun z2 =>
      k z2.2.1) (fun z3 =>
      impl_SameFrom_1_k z3.1 z3.2.2.2.2.1 z3.2.2.2.2.2.1 (fun y4 =>
        k y4.1))))

theorem impl_SameFrom_h : ∃ g : (List dVersion) → (List dVersion) → Int → (Bool → Option Res) → Option Res, g = impl_SameFrom_d := ⟨_, rfl⟩
def impl_SameFrom_k : (List dVersion) → (List dVersion) → Int → (Bool → Option Res) → Option Res := Classical.choose impl_SameFrom_h
theorem impl_SameFrom_e : impl_SameFrom_k = impl_SameFrom_d := Classical.choose_spec impl_SameFrom_h

theorem impl_SameFrom_p (a0 : (List dVersion)) (a1 : (List dVersion)) (a2 : Int) : Par (impl_SameFrom_k a0 a1 a2) := by
  rw [impl_SameFrom_e]
  unfold impl_SameFrom_d
  exact ((slices_Concat_Version_p [a0, a1]).bind fun y1 => ((par_loop impl_SameFrom_bp0 Fuel (a2, false, (y1.length : Int), (0 : Int), a0, a1, y1)).bind2 (fun z2 => (par_ret _)) (fun z3 => ((impl_SameFrom_1_p z3.1 z3.2.2.2.2.1 z3.2.2.2.2.2.1).bind fun y4 => (par_ret _)))))

def impl_LikeBase_d (a0 : dBase) (a1 : dBase) (k : Bool → Option Res) : Option Res :=
  bif (a0.2.2.2.1 == a1.2.2.2.1) then
    slices_EqualFunc_Txn_sameText_k a0.2.1 a1.2.1 (fun y1 =>
      bif y1 then
        slices_EqualFunc_Txn_sameText_k a0.2.2.1 a1.2.2.1 (fun y2 =>
          bif y2 then
            impl_SameFrom_k a0.1 a1.1 a0.2.2.2.1 (fun y3 =>
              k y3)
          else
            k false)
      else
        k false)
  else
    k false

theorem impl_LikeBase_h : ∃ g : dBase → dBase → (Bool → Option Res) → Option Res, g = impl_LikeBase_d := ⟨_, rfl⟩
def impl_LikeBase_k : dBase → dBase → (Bool → Option Res) → Option Res := Classical.choose impl_LikeBase_h
theorem impl_LikeBase_e : impl_LikeBase_k = impl_LikeBase_d := Classical.choose_spec impl_LikeBase_h

theorem impl_LikeBase_p (a0 : dBase) (a1 : dBase) : Par (impl_LikeBase_k a0 a1) := by
  rw [impl_LikeBase_e]
  unfold impl_LikeBase_d
  exact (par_bif ((slices_EqualFunc_Txn_sameText_p a0.2.1 a1.2.1).bind fun y1 => (par_bif ((slices_EqualFunc_Txn_sameText_p a0.2.2.1 a1.2.2.1).bind fun y2 => (par_bif ((impl_SameFrom_p a0.1 a1.1 a0.2.2.2.1).bind fun y3 => (par_ret _)) (par_ret _))) (par_ret _))) (par_ret _))

def laws_eqVersion_d (a0 : dVersion) (a1 : dVersion) (k : Bool → Option Res) : Option Res :=
  bif (!(strEq a0.1 a1.1)) then
    k false
  else
    bif (!(strEq a0.2.1 a1.2.1)) then
      k false
    else
      bif (!(a0.2.2.1 == a1.2.2.1)) then
        k false
      else
        bif (a0.2.2.2 != a1.2.2.2) then
          k false
        else
          k true

theorem laws_eqVersion_h : ∃ g : dVersion → dVersion → (Bool → Option Res) → Option Res, g = laws_eqVersion_d := ⟨_, rfl⟩
def laws_eqVersion_k : dVersion → dVersion → (Bool → Option Res) → Option Res := Classical.choose laws_eqVersion_h
theorem laws_eqVersion_e : laws_eqVersion_k = laws_eqVersion_d := Classical.choose_spec laws_eqVersion_h

theorem laws_eqVersion_p (a0 : dVersion) (a1 : dVersion) : Par (laws_eqVersion_k a0 a1) := by
  rw [laws_eqVersion_e]
  unfold laws_eqVersion_d
  exact (par_bif (par_ret _) (par_bif (par_ret _) (par_bif (par_ret _) (par_bif (par_ret _) (par_ret _)))))

def laws_eqVersionS_b0 (x : q13T) (k : q13T ⊕ (q13T ⊕ q13T) → Option Res) : Option Res :=
    bif (decide (x.2.2.2 < (x.1.length : Int))) then
      if 0 ≤ x.2.2.2 ∧ x.2.2.2 < (x.1.length : Int) then
        if 0 ≤ x.2.2.2 ∧ x.2.2.2 < (x.2.1.length : Int) then
          laws_eqVersion_k (rd (Ty.zero tVersion) x.1 x.2.2.2) (rd (Ty.zero tVersion) x.2.1 x.2.2.2) (fun y3 =>
            bif (!y3) then
              k (.inr (.inl (x.1, x.2.1, false, x.2.2.2)))
            else
              k (.inl (x.1, x.2.1, x.2.2.1, (IntKind.wrap .i64 (x.2.2.2 + (1 : Int))))))
        else none
      else none
    else
      k (.inr (.inr (x.1, x.2.1, x.2.2.1, x.2.2.2)))

theorem laws_eqVersionS_bp0 (x : q13T) : Par (laws_eqVersionS_b0 x) := by
  unfold laws_eqVersionS_b0
  exact (par_bif (par_ite (c := 0 ≤ x.2.2.2 ∧ x.2.2.2 < (x.1.length : Int)) (par_ite (c := 0 ≤ x.2.2.2 ∧ x.2.2.2 < (x.2.1.length : Int)) ((laws_eqVersion_p (rd (Ty.zero tVersion) x.1 x.2.2.2) (rd (Ty.zero tVersion) x.2.1 x.2.2.2)).bind fun y3 => (par_bif (par_ret _) (par_ret _))) par_none) par_none) (par_ret _))

def laws_eqVersionS_d (a0 : (List dVersion)) (a1 : (List dVersion)) (k : Bool → Option Res) : Option Res :=
  bif ((a0.length : Int) != (a1.length : Int)) then
    k false
  else
    loopK laws_eqVersionS_b0 Fuel (a0, a1, false, (0 : Int)) (Sum.elim (fun z1 =>
      k z1.2.2.1) (fun _ =>
      k true))

theorem laws_eqVersionS_h : ∃ g : (List dVersion) → (List dVersion) → (Bool → Option Res) → Option Res, g = laws_eqVersionS_d := ⟨_, rfl⟩
def laws_eqVersionS_k : (List dVersion) → (List dVersion) → (Bool → Option Res) → Option Res := Classical.choose laws_eqVersionS_h
theorem laws_eqVersionS_e : laws_eqVersionS_k = laws_eqVersionS_d := Classical.choose_spec laws_eqVersionS_h

theorem laws_eqVersionS_p (a0 : (List dVersion)) (a1 : (List dVersion)) : Par (laws_eqVersionS_k a0 a1) := by
  rw [laws_eqVersionS_e]
  unfold laws_eqVersionS_d
  exact (par_bif (par_ret _) ((par_loop laws_eqVersionS_bp0 Fuel (a0, a1, false, (0 : Int))).bind2 (fun z1 => (par_ret _)) (fun z2 => (par_ret _))))

def laws_eqRange_d (a0 : dRange) (a1 : dRange) (k : Bool → Option Res) : Option Res :=
  bif (!(strEq a0.1 a1.1)) then
    k false
  else
    bif (!(strEq a0.2 a1.2)) then
      k false
    else
      k true

theorem laws_eqRange_h : ∃ g : dRange → dRange → (Bool → Option Res) → Option Res, g = laws_eqRange_d := ⟨_, rfl⟩
def laws_eqRange_k : dRange → dRange → (Bool → Option Res) → Option Res := Classical.choose laws_eqRange_h
theorem laws_eqRange_e : laws_eqRange_k = laws_eqRange_d := Classical.choose_spec laws_eqRange_h

theorem laws_eqRange_p (a0 : dRange) (a1 : dRange) : Par (laws_eqRange_k a0 a1) := by
  rw [laws_eqRange_e]
  unfold laws_eqRange_d
  exact (par_bif (par_ret _) (par_bif (par_ret _) (par_ret _)))

def laws_eqRangeS_b0 (x : q5T) (k : q5T ⊕ (q5T ⊕ q5T) → Option Res) : Option Res :=
    bif (decide (x.2.2.2 < (x.1.length : Int))) then
      if 0 ≤ x.2.2.2 ∧ x.2.2.2 < (x.1.length : Int) then
        if 0 ≤ x.2.2.2 ∧ x.2.2.2 < (x.2.1.length : Int) then
          laws_eqRange_k (rd (Ty.zero tRange) x.1 x.2.2.2) (rd (Ty.zero tRange) x.2.1 x.2.2.2) (fun y3 =>
            bif (!y3) then
              k (.inr (.inl (x.1, x.2.1, false, x.2.2.2)))
            else
              k (.inl (x.1, x.2.1, x.2.2.1, (IntKind.wrap .i64 (x.2.2.2 + (1 : Int))))))
        else none
      else none
    else
      k (.inr (.inr (x.1, x.2.1, x.2.2.1, x.2.2.2)))

theorem laws_eqRangeS_bp0 (x : q5T) : Par (laws_eqRangeS_b0 x) := by
  unfold laws_eqRangeS_b0
  exact (par_bif (par_ite (c := 0 ≤ x.2.2.2 ∧ x.2.2.2 < (x.1.length : Int)) (par_ite (c := 0 ≤ x.2.2.2 ∧ x.2.2.2 < (x.2.1.length : Int)) ((laws_eqRange_p (rd (Ty.zero tRange) x.1 x.2.2.2) (rd (Ty.zero tRange) x.2.1 x.2.2.2)).bind fun y3 => (par_bif (par_ret _) (par_ret _))) par_none) par_none) (par_ret _))

def laws_eqRangeS_d (a0 : (List dRange)) (a1 : (List dRange)) (k : Bool → Option Res) : Option Res :=
  bif ((a0.length : Int) != (a1.length : Int)) then
    k false
  else
    loopK laws_eqRangeS_b0 Fuel (a0, a1, false, (0 : Int)) (Sum.elim (fun z1 =>
      k z1.2.2.1) (fun _ =>
      k true))

theorem laws_eqRangeS_h : ∃ g : (List dRange) → (List dRange) → (Bool → Option Res) → Option Res, g = laws_eqRangeS_d := ⟨_, rfl⟩
def laws_eqRangeS_k : (List dRange) → (List dRange) → (Bool → Option Res) → Option Res := Classical.choose laws_eqRangeS_h
theorem laws_eqRangeS_e : laws_eqRangeS_k = laws_eqRangeS_d := Classical.choose_spec laws_eqRangeS_h

theorem laws_eqRangeS_p (a0 : (List dRange)) (a1 : (List dRange)) : Par (laws_eqRangeS_k a0 a1) := by
  rw [laws_eqRangeS_e]
  unfold laws_eqRangeS_d
  exact (par_bif (par_ret _) ((par_loop laws_eqRangeS_bp0 Fuel (a0, a1, false, (0 : Int))).bind2 (fun z1 => (par_ret _)) (fun z2 => (par_ret _))))

def laws_eqWrite_d (a0 : dWrite) (a1 : dWrite) (k : Bool → Option Res) : Option Res :=
  bif (!(strEq a0.1 a1.1)) then
    k false
  else
    bif (!(strEq a0.2.1 a1.2.1)) then
      k false
    else
      bif (!(a0.2.2 == a1.2.2)) then
        k false
      else
        k true

theorem laws_eqWrite_h : ∃ g : dWrite → dWrite → (Bool → Option Res) → Option Res, g = laws_eqWrite_d := ⟨_, rfl⟩
def laws_eqWrite_k : dWrite → dWrite → (Bool → Option Res) → Option Res := Classical.choose laws_eqWrite_h
theorem laws_eqWrite_e : laws_eqWrite_k = laws_eqWrite_d := Classical.choose_spec laws_eqWrite_h

theorem laws_eqWrite_p (a0 : dWrite) (a1 : dWrite) : Par (laws_eqWrite_k a0 a1) := by
  rw [laws_eqWrite_e]
  unfold laws_eqWrite_d
  exact (par_bif (par_ret _) (par_bif (par_ret _) (par_bif (par_ret _) (par_ret _))))

def laws_eqWriteS_b0 (x : q25T) (k : q25T ⊕ (q25T ⊕ q25T) → Option Res) : Option Res :=
    bif (decide (x.2.2.2 < (x.1.length : Int))) then
      if 0 ≤ x.2.2.2 ∧ x.2.2.2 < (x.1.length : Int) then
        if 0 ≤ x.2.2.2 ∧ x.2.2.2 < (x.2.1.length : Int) then
          laws_eqWrite_k (rd (Ty.zero tWrite) x.1 x.2.2.2) (rd (Ty.zero tWrite) x.2.1 x.2.2.2) (fun y3 =>
            bif (!y3) then
              k (.inr (.inl (x.1, x.2.1, false, x.2.2.2)))
            else
              k (.inl (x.1, x.2.1, x.2.2.1, (IntKind.wrap .i64 (x.2.2.2 + (1 : Int))))))
        else none
      else none
    else
      k (.inr (.inr (x.1, x.2.1, x.2.2.1, x.2.2.2)))

theorem laws_eqWriteS_bp0 (x : q25T) : Par (laws_eqWriteS_b0 x) := by
  unfold laws_eqWriteS_b0
  exact (par_bif (par_ite (c := 0 ≤ x.2.2.2 ∧ x.2.2.2 < (x.1.length : Int)) (par_ite (c := 0 ≤ x.2.2.2 ∧ x.2.2.2 < (x.2.1.length : Int)) ((laws_eqWrite_p (rd (Ty.zero tWrite) x.1 x.2.2.2) (rd (Ty.zero tWrite) x.2.1 x.2.2.2)).bind fun y3 => (par_bif (par_ret _) (par_ret _))) par_none) par_none) (par_ret _))

def laws_eqWriteS_d (a0 : (List dWrite)) (a1 : (List dWrite)) (k : Bool → Option Res) : Option Res :=
  bif ((a0.length : Int) != (a1.length : Int)) then
    k false
  else
    loopK laws_eqWriteS_b0 Fuel (a0, a1, false, (0 : Int)) (Sum.elim (fun z1 =>
      k z1.2.2.1) (fun _ =>
      k true))

theorem laws_eqWriteS_h : ∃ g : (List dWrite) → (List dWrite) → (Bool → Option Res) → Option Res, g = laws_eqWriteS_d := ⟨_, rfl⟩
def laws_eqWriteS_k : (List dWrite) → (List dWrite) → (Bool → Option Res) → Option Res := Classical.choose laws_eqWriteS_h
theorem laws_eqWriteS_e : laws_eqWriteS_k = laws_eqWriteS_d := Classical.choose_spec laws_eqWriteS_h

theorem laws_eqWriteS_p (a0 : (List dWrite)) (a1 : (List dWrite)) : Par (laws_eqWriteS_k a0 a1) := by
  rw [laws_eqWriteS_e]
  unfold laws_eqWriteS_d
  exact (par_bif (par_ret _) ((par_loop laws_eqWriteS_bp0 Fuel (a0, a1, false, (0 : Int))).bind2 (fun z1 => (par_ret _)) (fun z2 => (par_ret _))))

def laws_eqTxn_d (a0 : dTxn) (a1 : dTxn) (k : Bool → Option Res) : Option Res :=
  bif (a0.1 != a1.1) then
    k false
  else
    bif (a0.2.1 != a1.2.1) then
      k false
    else
      bif (a0.2.2.1 != a1.2.2.1) then
        k false
      else
        bif (a0.2.2.2.1 != a1.2.2.2.1) then
          k false
        else
          laws_eqRangeS_k a0.2.2.2.2.1 a1.2.2.2.2.1 (fun y1 =>
            bif (!y1) then
              k false
            else
              laws_eqWriteS_k a0.2.2.2.2.2.1 a1.2.2.2.2.2.1 (fun y2 =>
                bif (!y2) then
                  k false
                else
                  bif (!(a0.2.2.2.2.2.2.1 == a1.2.2.2.2.2.2.1)) then
                    k false
                  else
                    bif (!(strEq a0.2.2.2.2.2.2.2 a1.2.2.2.2.2.2.2)) then
                      k false
                    else
                      k true))

theorem laws_eqTxn_h : ∃ g : dTxn → dTxn → (Bool → Option Res) → Option Res, g = laws_eqTxn_d := ⟨_, rfl⟩
def laws_eqTxn_k : dTxn → dTxn → (Bool → Option Res) → Option Res := Classical.choose laws_eqTxn_h
theorem laws_eqTxn_e : laws_eqTxn_k = laws_eqTxn_d := Classical.choose_spec laws_eqTxn_h

theorem laws_eqTxn_p (a0 : dTxn) (a1 : dTxn) : Par (laws_eqTxn_k a0 a1) := by
  rw [laws_eqTxn_e]
  unfold laws_eqTxn_d
  exact (par_bif (par_ret _) (par_bif (par_ret _) (par_bif (par_ret _) (par_bif (par_ret _) ((laws_eqRangeS_p a0.2.2.2.2.1 a1.2.2.2.2.1).bind fun y1 => (par_bif (par_ret _) ((laws_eqWriteS_p a0.2.2.2.2.2.1 a1.2.2.2.2.2.1).bind fun y2 => (par_bif (par_ret _) (par_bif (par_ret _) (par_bif (par_ret _) (par_ret _)))))))))))

def laws_eqTxnS_b0 (x : q9T) (k : q9T ⊕ (q9T ⊕ q9T) → Option Res) : Option Res :=
    bif (decide (x.2.2.2 < (x.1.length : Int))) then
      if 0 ≤ x.2.2.2 ∧ x.2.2.2 < (x.1.length : Int) then
        if 0 ≤ x.2.2.2 ∧ x.2.2.2 < (x.2.1.length : Int) then
          laws_eqTxn_k (rd (Ty.zero tTxn) x.1 x.2.2.2) (rd (Ty.zero tTxn) x.2.1 x.2.2.2) (fun y3 =>
            bif (!y3) then
              k (.inr (.inl (x.1, x.2.1, false, x.2.2.2)))
            else
              k (.inl (x.1, x.2.1, x.2.2.1, (IntKind.wrap .i64 (x.2.2.2 + (1 : Int))))))
        else none
      else none
    else
      k (.inr (.inr (x.1, x.2.1, x.2.2.1, x.2.2.2)))

theorem laws_eqTxnS_bp0 (x : q9T) : Par (laws_eqTxnS_b0 x) := by
  unfold laws_eqTxnS_b0
  exact (par_bif (par_ite (c := 0 ≤ x.2.2.2 ∧ x.2.2.2 < (x.1.length : Int)) (par_ite (c := 0 ≤ x.2.2.2 ∧ x.2.2.2 < (x.2.1.length : Int)) ((laws_eqTxn_p (rd (Ty.zero tTxn) x.1 x.2.2.2) (rd (Ty.zero tTxn) x.2.1 x.2.2.2)).bind fun y3 => (par_bif (par_ret _) (par_ret _))) par_none) par_none) (par_ret _))

def laws_eqTxnS_d (a0 : (List dTxn)) (a1 : (List dTxn)) (k : Bool → Option Res) : Option Res :=
  bif ((a0.length : Int) != (a1.length : Int)) then
    k false
  else
    loopK laws_eqTxnS_b0 Fuel (a0, a1, false, (0 : Int)) (Sum.elim (fun z1 =>
      k z1.2.2.1) (fun _ =>
      k true))

theorem laws_eqTxnS_h : ∃ g : (List dTxn) → (List dTxn) → (Bool → Option Res) → Option Res, g = laws_eqTxnS_d := ⟨_, rfl⟩
def laws_eqTxnS_k : (List dTxn) → (List dTxn) → (Bool → Option Res) → Option Res := Classical.choose laws_eqTxnS_h
theorem laws_eqTxnS_e : laws_eqTxnS_k = laws_eqTxnS_d := Classical.choose_spec laws_eqTxnS_h

theorem laws_eqTxnS_p (a0 : (List dTxn)) (a1 : (List dTxn)) : Par (laws_eqTxnS_k a0 a1) := by
  rw [laws_eqTxnS_e]
  unfold laws_eqTxnS_d
  exact (par_bif (par_ret _) ((par_loop laws_eqTxnS_bp0 Fuel (a0, a1, false, (0 : Int))).bind2 (fun z1 => (par_ret _)) (fun z2 => (par_ret _))))

def laws_eqBase_d (a0 : dBase) (a1 : dBase) (k : Bool → Option Res) : Option Res :=
  laws_eqVersionS_k a0.1 a1.1 (fun y1 =>
    bif (!y1) then
      k false
    else
      laws_eqTxnS_k a0.2.1 a1.2.1 (fun y2 =>
        bif (!y2) then
          k false
        else
          laws_eqTxnS_k a0.2.2.1 a1.2.2.1 (fun y3 =>
            bif (!y3) then
              k false
            else
              bif (a0.2.2.2.1 != a1.2.2.2.1) then
                k false
              else
                bif (a0.2.2.2.2 != a1.2.2.2.2) then
                  k false
                else
                  k true)))

theorem laws_eqBase_h : ∃ g : dBase → dBase → (Bool → Option Res) → Option Res, g = laws_eqBase_d := ⟨_, rfl⟩
def laws_eqBase_k : dBase → dBase → (Bool → Option Res) → Option Res := Classical.choose laws_eqBase_h
theorem laws_eqBase_e : laws_eqBase_k = laws_eqBase_d := Classical.choose_spec laws_eqBase_h

theorem laws_eqBase_p (a0 : dBase) (a1 : dBase) : Par (laws_eqBase_k a0 a1) := by
  rw [laws_eqBase_e]
  unfold laws_eqBase_d
  exact ((laws_eqVersionS_p a0.1 a1.1).bind fun y1 => (par_bif (par_ret _) ((laws_eqTxnS_p a0.2.1 a1.2.1).bind fun y2 => (par_bif (par_ret _) ((laws_eqTxnS_p a0.2.2.1 a1.2.2.1).bind fun y3 => (par_bif (par_ret _) (par_bif (par_ret _) (par_bif (par_ret _) (par_ret _)))))))))

def laws_FnExactLikeBase_d (a0 : dBase) (a1 : dBase) (k : Bool → Option Res) : Option Res :=
  laws_szBase_k a0 (1048576 : Int) (fun y1 =>
    bif (decide (y1 < (0 : Int))) then
      k true
    else
      laws_szBase_k a1 y1 (fun y2 =>
        bif (decide (y2 < (0 : Int))) then
          k true
        else
          laws_toBase_k a0 (fun y3 =>
            laws_toBase_k a1 (fun y4 =>
              spec_LikeBase_k (y3.2.2.1, (y3.2.2.2.1, (y3.2.2.2.2, (y3.1, y3.2.1)))) (y4.2.2.1, (y4.2.2.2.1, (y4.2.2.2.2, (y4.1, y4.2.1)))) (fun y5 =>
                laws_toBase_k a0 (fun y6 =>
                  laws_toBase_k a1 (fun y7 =>
                    impl_LikeBase_k (y6.2.2.1, (y6.2.2.2.1, (y6.2.2.2.2, (y6.1, y6.2.1)))) (y7.2.2.1, (y7.2.2.2.1, (y7.2.2.2.2, (y7.1, y7.2.1)))) (fun y8 =>
                      bif (!(y8 == y5)) then
                        k false
                      else
                        laws_toBase_k a0 (fun y9 =>
                          laws_eqBase_k (y6.2.2.1, (y6.2.2.2.1, (y6.2.2.2.2, (y6.1, y6.2.1)))) (y9.2.2.1, (y9.2.2.2.1, (y9.2.2.2.2, (y9.1, y9.2.1)))) (fun y10 =>
                            bif (!y10) then
                              k false
                            else
                              laws_toBase_k a1 (fun y11 =>
                                laws_eqBase_k (y7.2.2.1, (y7.2.2.2.1, (y7.2.2.2.2, (y7.1, y7.2.1)))) (y11.2.2.1, (y11.2.2.2.1, (y11.2.2.2.2, (y11.1, y11.2.1)))) (fun y12 =>
                                  bif (!y12) then
                                    k false
                                  else
                                    k true))))))))))))

theorem laws_FnExactLikeBase_h : ∃ g : dBase → dBase → (Bool → Option Res) → Option Res, g = laws_FnExactLikeBase_d := ⟨_, rfl⟩
def laws_FnExactLikeBase_k : dBase → dBase → (Bool → Option Res) → Option Res := Classical.choose laws_FnExactLikeBase_h
theorem laws_FnExactLikeBase_e : laws_FnExactLikeBase_k = laws_FnExactLikeBase_d := Classical.choose_spec laws_FnExactLikeBase_h

theorem laws_FnExactLikeBase_p (a0 : dBase) (a1 : dBase) : Par (laws_FnExactLikeBase_k a0 a1) := by
  rw [laws_FnExactLikeBase_e]
  unfold laws_FnExactLikeBase_d
  exact ((laws_szBase_p a0 (1048576 : Int)).bind fun y1 => (par_bif (par_ret _) ((laws_szBase_p a1 y1).bind fun y2 => (par_bif (par_ret _) ((laws_toBase_p a0).bind fun y3 => ((laws_toBase_p a1).bind fun y4 => ((spec_LikeBase_p (y3.2.2.1, (y3.2.2.2.1, (y3.2.2.2.2, (y3.1, y3.2.1)))) (y4.2.2.1, (y4.2.2.2.1, (y4.2.2.2.2, (y4.1, y4.2.1))))).bind fun y5 => ((laws_toBase_p a0).bind fun y6 => ((laws_toBase_p a1).bind fun y7 => ((impl_LikeBase_p (y6.2.2.1, (y6.2.2.2.1, (y6.2.2.2.2, (y6.1, y6.2.1)))) (y7.2.2.1, (y7.2.2.2.1, (y7.2.2.2.2, (y7.1, y7.2.1))))).bind fun y8 => (par_bif (par_ret _) ((laws_toBase_p a0).bind fun y9 => ((laws_eqBase_p (y6.2.2.1, (y6.2.2.2.1, (y6.2.2.2.2, (y6.1, y6.2.1)))) (y9.2.2.1, (y9.2.2.2.1, (y9.2.2.2.2, (y9.1, y9.2.1))))).bind fun y10 => (par_bif (par_ret _) ((laws_toBase_p a1).bind fun y11 => ((laws_eqBase_p (y7.2.2.1, (y7.2.2.2.1, (y7.2.2.2.2, (y7.1, y7.2.1)))) (y11.2.2.1, (y11.2.2.2.1, (y11.2.2.2.2, (y11.1, y11.2.1))))).bind fun y12 => (par_bif (par_ret _) (par_ret _))))))))))))))))))

def laws_szVersion_g (args : List AV) (st : St) (k : K1) : Option Res :=
  onPats [.agg [.str, .str, .bool, .int .i64], .int .i64] [] args st (fun p q => laws_szVersion_k (p.1.1, (p.1.2.1, (p.1.2.2.1, p.1.2.2.2.1))) p.2.1 (fun (y : Int) => k (.int .i64 y) []))
    (none)

theorem laws_szVersion_q (a0 : ByteArray) (a1 : ByteArray) (a2 : Bool) (a3 : Int) (a4 : Int) : Par (fun k : AV × St → Option Res => laws_szVersion_g [.agg [.str a0, .str a1, .bool a2, .int .i64 a3], .int .i64 a4] [] (fun v s => k (v, s))) :=
  (laws_szVersion_p (a0, (a1, (a2, a3))) a4).bind (H := fun (y : Int) (k : AV × St → Option Res) => (fun (y : Int) => k ((.int .i64 y : AV), ([] : St))) y) (fun y => par_ret _)

def laws_szVersionS_g (args : List AV) (st : St) (k : K1) : Option Res :=
  onPats [.lst tVersion, .int .i64] [] args st (fun p q => laws_szVersionS_k p.1 p.2.1 (fun (y : Int) => k (.int .i64 y) []))
    (none)

theorem laws_szVersionS_q (a0 : (List dVersion)) (a1 : Int) : Par (fun k : AV × St → Option Res => laws_szVersionS_g [.lst tVersion a0, .int .i64 a1] [] (fun v s => k (v, s))) :=
  (laws_szVersionS_p a0 a1).bind (H := fun (y : Int) (k : AV × St → Option Res) => (fun (y : Int) => k ((.int .i64 y : AV), ([] : St))) y) (fun y => par_ret _)

def laws_szRange_g (args : List AV) (st : St) (k : K1) : Option Res :=
  onPats [.agg [.str, .str], .int .i64] [] args st (fun p q => laws_szRange_k (p.1.1, p.1.2.1) p.2.1 (fun (y : Int) => k (.int .i64 y) []))
    (none)

theorem laws_szRange_q (a0 : ByteArray) (a1 : ByteArray) (a2 : Int) : Par (fun k : AV × St → Option Res => laws_szRange_g [.agg [.str a0, .str a1], .int .i64 a2] [] (fun v s => k (v, s))) :=
  (laws_szRange_p (a0, a1) a2).bind (H := fun (y : Int) (k : AV × St → Option Res) => (fun (y : Int) => k ((.int .i64 y : AV), ([] : St))) y) (fun y => par_ret _)

def laws_szRangeS_g (args : List AV) (st : St) (k : K1) : Option Res :=
  onPats [.lst tRange, .int .i64] [] args st (fun p q => laws_szRangeS_k p.1 p.2.1 (fun (y : Int) => k (.int .i64 y) []))
    (none)

theorem laws_szRangeS_q (a0 : (List dRange)) (a1 : Int) : Par (fun k : AV × St → Option Res => laws_szRangeS_g [.lst tRange a0, .int .i64 a1] [] (fun v s => k (v, s))) :=
  (laws_szRangeS_p a0 a1).bind (H := fun (y : Int) (k : AV × St → Option Res) => (fun (y : Int) => k ((.int .i64 y : AV), ([] : St))) y) (fun y => par_ret _)

def laws_szWrite_g (args : List AV) (st : St) (k : K1) : Option Res :=
  onPats [.agg [.str, .str, .bool], .int .i64] [] args st (fun p q => laws_szWrite_k (p.1.1, (p.1.2.1, p.1.2.2.1)) p.2.1 (fun (y : Int) => k (.int .i64 y) []))
    (none)

theorem laws_szWrite_q (a0 : ByteArray) (a1 : ByteArray) (a2 : Bool) (a3 : Int) : Par (fun k : AV × St → Option Res => laws_szWrite_g [.agg [.str a0, .str a1, .bool a2], .int .i64 a3] [] (fun v s => k (v, s))) :=
  (laws_szWrite_p (a0, (a1, a2)) a3).bind (H := fun (y : Int) (k : AV × St → Option Res) => (fun (y : Int) => k ((.int .i64 y : AV), ([] : St))) y) (fun y => par_ret _)

def laws_szWriteS_g (args : List AV) (st : St) (k : K1) : Option Res :=
  onPats [.lst tWrite, .int .i64] [] args st (fun p q => laws_szWriteS_k p.1 p.2.1 (fun (y : Int) => k (.int .i64 y) []))
    (none)

theorem laws_szWriteS_q (a0 : (List dWrite)) (a1 : Int) : Par (fun k : AV × St → Option Res => laws_szWriteS_g [.lst tWrite a0, .int .i64 a1] [] (fun v s => k (v, s))) :=
  (laws_szWriteS_p a0 a1).bind (H := fun (y : Int) (k : AV × St → Option Res) => (fun (y : Int) => k ((.int .i64 y : AV), ([] : St))) y) (fun y => par_ret _)

def laws_szTxn_g (args : List AV) (st : St) (k : K1) : Option Res :=
  onPats [.agg [.int .i64, .int .i64, .int .i64, .int .i64, .lst tRange, .lst tWrite, .bool, .str], .int .i64] [] args st (fun p q => laws_szTxn_k (p.1.1, (p.1.2.1, (p.1.2.2.1, (p.1.2.2.2.1, (p.1.2.2.2.2.1, (p.1.2.2.2.2.2.1, (p.1.2.2.2.2.2.2.1, p.1.2.2.2.2.2.2.2.1))))))) p.2.1 (fun (y : Int) => k (.int .i64 y) []))
    (none)

theorem laws_szTxn_q (a0 : Int) (a1 : Int) (a2 : Int) (a3 : Int) (a4 : (List dRange)) (a5 : (List dWrite)) (a6 : Bool) (a7 : ByteArray) (a8 : Int) : Par (fun k : AV × St → Option Res => laws_szTxn_g [.agg [.int .i64 a0, .int .i64 a1, .int .i64 a2, .int .i64 a3, .lst tRange a4, .lst tWrite a5, .bool a6, .str a7], .int .i64 a8] [] (fun v s => k (v, s))) :=
  (laws_szTxn_p (a0, (a1, (a2, (a3, (a4, (a5, (a6, a7))))))) a8).bind (H := fun (y : Int) (k : AV × St → Option Res) => (fun (y : Int) => k ((.int .i64 y : AV), ([] : St))) y) (fun y => par_ret _)

def laws_szTxnS_g (args : List AV) (st : St) (k : K1) : Option Res :=
  onPats [.lst tTxn, .int .i64] [] args st (fun p q => laws_szTxnS_k p.1 p.2.1 (fun (y : Int) => k (.int .i64 y) []))
    (none)

theorem laws_szTxnS_q (a0 : (List dTxn)) (a1 : Int) : Par (fun k : AV × St → Option Res => laws_szTxnS_g [.lst tTxn a0, .int .i64 a1] [] (fun v s => k (v, s))) :=
  (laws_szTxnS_p a0 a1).bind (H := fun (y : Int) (k : AV × St → Option Res) => (fun (y : Int) => k ((.int .i64 y : AV), ([] : St))) y) (fun y => par_ret _)

def laws_szBase_g (args : List AV) (st : St) (k : K1) : Option Res :=
  onPats [.agg [.lst tVersion, .lst tTxn, .lst tTxn, .int .i64, .int .i64], .int .i64] [] args st (fun p q => laws_szBase_k (p.1.1, (p.1.2.1, (p.1.2.2.1, (p.1.2.2.2.1, p.1.2.2.2.2.1)))) p.2.1 (fun (y : Int) => k (.int .i64 y) []))
    (none)

theorem laws_szBase_q (a0 : (List dVersion)) (a1 : (List dTxn)) (a2 : (List dTxn)) (a3 : Int) (a4 : Int) (a5 : Int) : Par (fun k : AV × St → Option Res => laws_szBase_g [.agg [.lst tVersion a0, .lst tTxn a1, .lst tTxn a2, .int .i64 a3, .int .i64 a4], .int .i64 a5] [] (fun v s => k (v, s))) :=
  (laws_szBase_p (a0, (a1, (a2, (a3, a4)))) a5).bind (H := fun (y : Int) (k : AV × St → Option Res) => (fun (y : Int) => k ((.int .i64 y : AV), ([] : St))) y) (fun y => par_ret _)

def laws_toVersion_g (args : List AV) (st : St) (k : K1) : Option Res :=
  onPats [.agg [.str, .str, .bool, .int .i64]] [] args st (fun p q => laws_toVersion_k (p.1.1, (p.1.2.1, (p.1.2.2.1, p.1.2.2.2.1))) (fun (y : q34T) => k (.agg [.str y.1, .str y.2.1, .bool y.2.2.1, .int .i64 y.2.2.2]) []))
    (none)

theorem laws_toVersion_q (a0 : ByteArray) (a1 : ByteArray) (a2 : Bool) (a3 : Int) : Par (fun k : AV × St → Option Res => laws_toVersion_g [.agg [.str a0, .str a1, .bool a2, .int .i64 a3]] [] (fun v s => k (v, s))) :=
  (laws_toVersion_p (a0, (a1, (a2, a3)))).bind (H := fun (y : q34T) (k : AV × St → Option Res) => (fun (y : q34T) => k ((.agg [.str y.1, .str y.2.1, .bool y.2.2.1, .int .i64 y.2.2.2] : AV), ([] : St))) y) (fun y => par_ret _)

def laws_toVersionS_g (args : List AV) (st : St) (k : K1) : Option Res :=
  onPats [.lst tVersion] [] args st (fun p q => laws_toVersionS_k p.1 (fun (y : (List dVersion)) => k (.own 0) [.arr tVersion y]))
    (none)

theorem laws_toVersionS_q (a0 : (List dVersion)) : Par (fun k : AV × St → Option Res => laws_toVersionS_g [.lst tVersion a0] [] (fun v s => k (v, s))) :=
  (laws_toVersionS_p a0).bind (H := fun (y : (List dVersion)) (k : AV × St → Option Res) => (fun (y : (List dVersion)) => k ((.own 0 : AV), ([.arr tVersion y] : St))) y) (fun y => par_ret _)

def laws_toRange_g (args : List AV) (st : St) (k : K1) : Option Res :=
  onPats [.agg [.str, .str]] [] args st (fun p q => laws_toRange_k (p.1.1, p.1.2.1) (fun (y : (ByteArray × ByteArray)) => k (.agg [.str y.1, .str y.2]) []))
    (none)

theorem laws_toRange_q (a0 : ByteArray) (a1 : ByteArray) : Par (fun k : AV × St → Option Res => laws_toRange_g [.agg [.str a0, .str a1]] [] (fun v s => k (v, s))) :=
  (laws_toRange_p (a0, a1)).bind (H := fun (y : (ByteArray × ByteArray)) (k : AV × St → Option Res) => (fun (y : (ByteArray × ByteArray)) => k ((.agg [.str y.1, .str y.2] : AV), ([] : St))) y) (fun y => par_ret _)

def laws_toRangeS_g (args : List AV) (st : St) (k : K1) : Option Res :=
  onPats [.lst tRange] [] args st (fun p q => laws_toRangeS_k p.1 (fun (y : (List dRange)) => k (.own 0) [.arr tRange y]))
    (none)

theorem laws_toRangeS_q (a0 : (List dRange)) : Par (fun k : AV × St → Option Res => laws_toRangeS_g [.lst tRange a0] [] (fun v s => k (v, s))) :=
  (laws_toRangeS_p a0).bind (H := fun (y : (List dRange)) (k : AV × St → Option Res) => (fun (y : (List dRange)) => k ((.own 0 : AV), ([.arr tRange y] : St))) y) (fun y => par_ret _)

def laws_toWrite_g (args : List AV) (st : St) (k : K1) : Option Res :=
  onPats [.agg [.str, .str, .bool]] [] args st (fun p q => laws_toWrite_k (p.1.1, (p.1.2.1, p.1.2.2.1)) (fun (y : (ByteArray × ByteArray × Bool)) => k (.agg [.str y.1, .str y.2.1, .bool y.2.2]) []))
    (none)

theorem laws_toWrite_q (a0 : ByteArray) (a1 : ByteArray) (a2 : Bool) : Par (fun k : AV × St → Option Res => laws_toWrite_g [.agg [.str a0, .str a1, .bool a2]] [] (fun v s => k (v, s))) :=
  (laws_toWrite_p (a0, (a1, a2))).bind (H := fun (y : (ByteArray × ByteArray × Bool)) (k : AV × St → Option Res) => (fun (y : (ByteArray × ByteArray × Bool)) => k ((.agg [.str y.1, .str y.2.1, .bool y.2.2] : AV), ([] : St))) y) (fun y => par_ret _)

def laws_toWriteS_g (args : List AV) (st : St) (k : K1) : Option Res :=
  onPats [.lst tWrite] [] args st (fun p q => laws_toWriteS_k p.1 (fun (y : (List dWrite)) => k (.own 0) [.arr tWrite y]))
    (none)

theorem laws_toWriteS_q (a0 : (List dWrite)) : Par (fun k : AV × St → Option Res => laws_toWriteS_g [.lst tWrite a0] [] (fun v s => k (v, s))) :=
  (laws_toWriteS_p a0).bind (H := fun (y : (List dWrite)) (k : AV × St → Option Res) => (fun (y : (List dWrite)) => k ((.own 0 : AV), ([.arr tWrite y] : St))) y) (fun y => par_ret _)

def laws_toTxn_g (args : List AV) (st : St) (k : K1) : Option Res :=
  onPats [.agg [.int .i64, .int .i64, .int .i64, .int .i64, .lst tRange, .lst tWrite, .bool, .str]] [] args st (fun p q => laws_toTxn_k (p.1.1, (p.1.2.1, (p.1.2.2.1, (p.1.2.2.2.1, (p.1.2.2.2.2.1, (p.1.2.2.2.2.2.1, (p.1.2.2.2.2.2.2.1, p.1.2.2.2.2.2.2.2.1))))))) (fun (y : q39T) => k (.agg [.int .i64 y.1, .int .i64 y.2.1, .int .i64 y.2.2.1, .int .i64 y.2.2.2.1, .own 0, .own 1, .bool y.2.2.2.2.1, .str y.2.2.2.2.2.1]) [.arr tRange y.2.2.2.2.2.2.1, .arr tWrite y.2.2.2.2.2.2.2]))
    (none)

theorem laws_toTxn_q (a0 : Int) (a1 : Int) (a2 : Int) (a3 : Int) (a4 : (List dRange)) (a5 : (List dWrite)) (a6 : Bool) (a7 : ByteArray) : Par (fun k : AV × St → Option Res => laws_toTxn_g [.agg [.int .i64 a0, .int .i64 a1, .int .i64 a2, .int .i64 a3, .lst tRange a4, .lst tWrite a5, .bool a6, .str a7]] [] (fun v s => k (v, s))) :=
  (laws_toTxn_p (a0, (a1, (a2, (a3, (a4, (a5, (a6, a7)))))))).bind (H := fun (y : q39T) (k : AV × St → Option Res) => (fun (y : q39T) => k ((.agg [.int .i64 y.1, .int .i64 y.2.1, .int .i64 y.2.2.1, .int .i64 y.2.2.2.1, .own 0, .own 1, .bool y.2.2.2.2.1, .str y.2.2.2.2.2.1] : AV), ([.arr tRange y.2.2.2.2.2.2.1, .arr tWrite y.2.2.2.2.2.2.2] : St))) y) (fun y => par_ret _)

def laws_toTxnS_g (args : List AV) (st : St) (k : K1) : Option Res :=
  onPats [.lst tTxn] [] args st (fun p q => laws_toTxnS_k p.1 (fun (y : (List dTxn)) => k (.own 0) [.arr tTxn y]))
    (none)

theorem laws_toTxnS_q (a0 : (List dTxn)) : Par (fun k : AV × St → Option Res => laws_toTxnS_g [.lst tTxn a0] [] (fun v s => k (v, s))) :=
  (laws_toTxnS_p a0).bind (H := fun (y : (List dTxn)) (k : AV × St → Option Res) => (fun (y : (List dTxn)) => k ((.own 0 : AV), ([.arr tTxn y] : St))) y) (fun y => par_ret _)

def laws_toBase_g (args : List AV) (st : St) (k : K1) : Option Res :=
  onPats [.agg [.lst tVersion, .lst tTxn, .lst tTxn, .int .i64, .int .i64]] [] args st (fun p q => laws_toBase_k (p.1.1, (p.1.2.1, (p.1.2.2.1, (p.1.2.2.2.1, p.1.2.2.2.2.1)))) (fun (y : q38T) => k (.agg [.own 0, .own 1, .own 2, .int .i64 y.1, .int .i64 y.2.1]) [.arr tVersion y.2.2.1, .arr tTxn y.2.2.2.1, .arr tTxn y.2.2.2.2]))
    (none)

theorem laws_toBase_q (a0 : (List dVersion)) (a1 : (List dTxn)) (a2 : (List dTxn)) (a3 : Int) (a4 : Int) : Par (fun k : AV × St → Option Res => laws_toBase_g [.agg [.lst tVersion a0, .lst tTxn a1, .lst tTxn a2, .int .i64 a3, .int .i64 a4]] [] (fun v s => k (v, s))) :=
  (laws_toBase_p (a0, (a1, (a2, (a3, a4))))).bind (H := fun (y : q38T) (k : AV × St → Option Res) => (fun (y : q38T) => k ((.agg [.own 0, .own 1, .own 2, .int .i64 y.1, .int .i64 y.2.1] : AV), ([.arr tVersion y.2.2.1, .arr tTxn y.2.2.2.1, .arr tTxn y.2.2.2.2] : St))) y) (fun y => par_ret _)

def spec_l01In_g (args : List AV) (st : St) (k : K1) : Option Res :=
  onPats [.int .i64, .int .i64, .int .i64] [] args st (fun p q => spec_l01In_k p.1 p.2.1 p.2.2.1 (fun (y : Bool) => k (.bool y) []))
    (none)

theorem spec_l01In_q (a0 : Int) (a1 : Int) (a2 : Int) : Par (fun k : AV × St → Option Res => spec_l01In_g [.int .i64 a0, .int .i64 a1, .int .i64 a2] [] (fun v s => k (v, s))) :=
  (spec_l01In_p a0 a1 a2).bind (H := fun (y : Bool) (k : AV × St → Option Res) => (fun (y : Bool) => k ((.bool y : AV), ([] : St))) y) (fun y => par_ret _)

def spec_KeyOk_g (args : List AV) (st : St) (k : K1) : Option Res :=
  onPats [.str] [] args st (fun p q => spec_KeyOk_k p.1 (fun (y : Bool) => k (.bool y) []))
    (none)

theorem spec_KeyOk_q (a0 : ByteArray) : Par (fun k : AV × St → Option Res => spec_KeyOk_g [.str a0] [] (fun v s => k (v, s))) :=
  (spec_KeyOk_p a0).bind (H := fun (y : Bool) (k : AV × St → Option Res) => (fun (y : Bool) => k ((.bool y : AV), ([] : St))) y) (fun y => par_ret _)

def spec_WriteOk_g (args : List AV) (st : St) (k : K1) : Option Res :=
  onPats [.agg [.str, .str, .bool]] [] args st (fun p q => spec_WriteOk_k (p.1.1, (p.1.2.1, p.1.2.2.1)) (fun (y : Bool) => k (.bool y) []))
    (none)

theorem spec_WriteOk_q (a0 : ByteArray) (a1 : ByteArray) (a2 : Bool) : Par (fun k : AV × St → Option Res => spec_WriteOk_g [.agg [.str a0, .str a1, .bool a2]] [] (fun v s => k (v, s))) :=
  (spec_WriteOk_p (a0, (a1, a2))).bind (H := fun (y : Bool) (k : AV × St → Option Res) => (fun (y : Bool) => k ((.bool y : AV), ([] : St))) y) (fun y => par_ret _)

def spec_WritesOk_g (args : List AV) (st : St) (k : K1) : Option Res :=
  onPats [.lst tWrite] [] args st (fun p q => spec_WritesOk_k p.1 (fun (y : Bool) => k (.bool y) []))
    (none)

theorem spec_WritesOk_q (a0 : (List dWrite)) : Par (fun k : AV × St → Option Res => spec_WritesOk_g [.lst tWrite a0] [] (fun v s => k (v, s))) :=
  (spec_WritesOk_p a0).bind (H := fun (y : Bool) (k : AV × St → Option Res) => (fun (y : Bool) => k ((.bool y : AV), ([] : St))) y) (fun y => par_ret _)

def spec_RangeOk_g (args : List AV) (st : St) (k : K1) : Option Res :=
  onPats [.agg [.str, .str]] [] args st (fun p q => spec_RangeOk_k (p.1.1, p.1.2.1) (fun (y : Bool) => k (.bool y) []))
    (none)

theorem spec_RangeOk_q (a0 : ByteArray) (a1 : ByteArray) : Par (fun k : AV × St → Option Res => spec_RangeOk_g [.agg [.str a0, .str a1]] [] (fun v s => k (v, s))) :=
  (spec_RangeOk_p (a0, a1)).bind (H := fun (y : Bool) (k : AV × St → Option Res) => (fun (y : Bool) => k ((.bool y : AV), ([] : St))) y) (fun y => par_ret _)

def spec_TxnOk_g (args : List AV) (st : St) (k : K1) : Option Res :=
  onPats [.agg [.int .i64, .int .i64, .int .i64, .int .i64, .lst tRange, .lst tWrite, .bool, .str]] [] args st (fun p q => spec_TxnOk_k (p.1.1, (p.1.2.1, (p.1.2.2.1, (p.1.2.2.2.1, (p.1.2.2.2.2.1, (p.1.2.2.2.2.2.1, (p.1.2.2.2.2.2.2.1, p.1.2.2.2.2.2.2.2.1))))))) (fun (y : Bool) => k (.bool y) []))
    (none)

theorem spec_TxnOk_q (a0 : Int) (a1 : Int) (a2 : Int) (a3 : Int) (a4 : (List dRange)) (a5 : (List dWrite)) (a6 : Bool) (a7 : ByteArray) : Par (fun k : AV × St → Option Res => spec_TxnOk_g [.agg [.int .i64 a0, .int .i64 a1, .int .i64 a2, .int .i64 a3, .lst tRange a4, .lst tWrite a5, .bool a6, .str a7]] [] (fun v s => k (v, s))) :=
  (spec_TxnOk_p (a0, (a1, (a2, (a3, (a4, (a5, (a6, a7)))))))).bind (H := fun (y : Bool) (k : AV × St → Option Res) => (fun (y : Bool) => k ((.bool y : AV), ([] : St))) y) (fun y => par_ret _)

def spec_l01Var_g (args : List AV) (st : St) (k : K1) : Option Res :=
  onPats [.int .i64] [] args st (fun p q => spec_l01Var_k p.1 (fun (y : ByteArray) => k (.str y) []))
    (none)

theorem spec_l01Var_q (a0 : Int) : Par (fun k : AV × St → Option Res => spec_l01Var_g [.int .i64 a0] [] (fun v s => k (v, s))) :=
  (spec_l01Var_p a0).bind (H := fun (y : ByteArray) (k : AV × St → Option Res) => (fun (y : ByteArray) => k ((.str y : AV), ([] : St))) y) (fun y => par_ret _)

def spec_l07Short_g (args : List AV) (st : St) (k : K1) : Option Res :=
  onPats [.str] [] args st (fun p q => spec_l07Short_k p.1 (fun (y : ByteArray) => k (.str y) []))
    (none)

theorem spec_l07Short_q (a0 : ByteArray) : Par (fun k : AV × St → Option Res => spec_l07Short_g [.str a0] [] (fun v s => k (v, s))) :=
  (spec_l07Short_p a0).bind (H := fun (y : ByteArray) (k : AV × St → Option Res) => (fun (y : ByteArray) => k ((.str y : AV), ([] : St))) y) (fun y => par_ret _)

def spec_l07Bit_g (args : List AV) (st : St) (k : K1) : Option Res :=
  onPats [.bool] [] args st (fun p q => spec_l07Bit_k p.1 (fun (y : ByteArray) => k (.str y) []))
    (none)

theorem spec_l07Bit_q (a0 : Bool) : Par (fun k : AV × St → Option Res => spec_l07Bit_g [.bool a0] [] (fun v s => k (v, s))) :=
  (spec_l07Bit_p a0).bind (H := fun (y : ByteArray) (k : AV × St → Option Res) => (fun (y : ByteArray) => k ((.str y : AV), ([] : St))) y) (fun y => par_ret _)

def spec_TxnText_g (args : List AV) (st : St) (k : K1) : Option Res :=
  onPats [.agg [.int .i64, .int .i64, .int .i64, .int .i64, .lst tRange, .lst tWrite, .bool, .str]] [] args st (fun p q => spec_TxnText_k (p.1.1, (p.1.2.1, (p.1.2.2.1, (p.1.2.2.2.1, (p.1.2.2.2.2.1, (p.1.2.2.2.2.2.1, (p.1.2.2.2.2.2.2.1, p.1.2.2.2.2.2.2.2.1))))))) (fun (y : (ByteArray × Bool)) => k (.tup [.str y.1, .bool y.2]) []))
    (none)

theorem spec_TxnText_q (a0 : Int) (a1 : Int) (a2 : Int) (a3 : Int) (a4 : (List dRange)) (a5 : (List dWrite)) (a6 : Bool) (a7 : ByteArray) : Par (fun k : AV × St → Option Res => spec_TxnText_g [.agg [.int .i64 a0, .int .i64 a1, .int .i64 a2, .int .i64 a3, .lst tRange a4, .lst tWrite a5, .bool a6, .str a7]] [] (fun v s => k (v, s))) :=
  (spec_TxnText_p (a0, (a1, (a2, (a3, (a4, (a5, (a6, a7)))))))).bind (H := fun (y : (ByteArray × Bool)) (k : AV × St → Option Res) => (fun (y : (ByteArray × Bool)) => k ((.tup [.str y.1, .bool y.2] : AV), ([] : St))) y) (fun y => par_ret _)

def spec_l12Texts_g (args : List AV) (st : St) (k : K1) : Option Res :=
  onPats [.lst tTxn, .lst tTxn] [] args st (fun p q => spec_l12Texts_k p.1 p.2.1 (fun (y : Bool) => k (.bool y) []))
    (none)

theorem spec_l12Texts_q (a0 : (List dTxn)) (a1 : (List dTxn)) : Par (fun k : AV × St → Option Res => spec_l12Texts_g [.lst tTxn a0, .lst tTxn a1] [] (fun v s => k (v, s))) :=
  (spec_l12Texts_p a0 a1).bind (H := fun (y : Bool) (k : AV × St → Option Res) => (fun (y : Bool) => k ((.bool y : AV), ([] : St))) y) (fun y => par_ret _)

def spec_l06All_g (args : List AV) (st : St) (k : K1) : Option Res :=
  onPats [] [] args st (fun p q => spec_l06All_k  (fun (y : (ByteArray × ByteArray)) => k (.agg [.str y.1, .str y.2]) []))
    (none)

theorem spec_l06All_q  : Par (fun k : AV × St → Option Res => spec_l06All_g [] [] (fun v s => k (v, s))) :=
  (spec_l06All_p ).bind (H := fun (y : (ByteArray × ByteArray)) (k : AV × St → Option Res) => (fun (y : (ByteArray × ByteArray)) => k ((.agg [.str y.1, .str y.2] : AV), ([] : St))) y) (fun y => par_ret _)

def spec_InRange_g (args : List AV) (st : St) (k : K1) : Option Res :=
  onPats [.agg [.str, .str], .str] [] args st (fun p q => spec_InRange_k (p.1.1, p.1.2.1) p.2.1 (fun (y : Bool) => k (.bool y) []))
    (none)

theorem spec_InRange_q (a0 : ByteArray) (a1 : ByteArray) (a2 : ByteArray) : Par (fun k : AV × St → Option Res => spec_InRange_g [.agg [.str a0, .str a1], .str a2] [] (fun v s => k (v, s))) :=
  (spec_InRange_p (a0, a1) a2).bind (H := fun (y : Bool) (k : AV × St → Option Res) => (fun (y : Bool) => k ((.bool y : AV), ([] : St))) y) (fun y => par_ret _)

def spec_l06Keys_g (args : List AV) (st : St) (k : K1) : Option Res :=
  onPats [.lst tVersion, .agg [.str, .str]] [] args st (fun p q => spec_l06Keys_k p.1 (p.2.1.1, p.2.1.2.1) (fun (y : (List ByteArray)) => k (.own 0) [.arr .str y]))
    (none)

theorem spec_l06Keys_q (a0 : (List dVersion)) (a1 : ByteArray) (a2 : ByteArray) : Par (fun k : AV × St → Option Res => spec_l06Keys_g [.lst tVersion a0, .agg [.str a1, .str a2]] [] (fun v s => k (v, s))) :=
  (spec_l06Keys_p a0 (a1, a2)).bind (H := fun (y : (List ByteArray)) (k : AV × St → Option Res) => (fun (y : (List ByteArray)) => k ((.own 0 : AV), ([.arr .str y] : St))) y) (fun y => par_ret _)

def spec_l06At_g (args : List AV) (st : St) (k : K1) : Option Res :=
  onPats [.lst tVersion, .str, .int .i64] [] args st (fun p q => spec_l06At_k p.1 p.2.1 p.2.2.1 (fun (y : Int) => k (.int .i64 y) []))
    (none)

theorem spec_l06At_q (a0 : (List dVersion)) (a1 : ByteArray) (a2 : Int) : Par (fun k : AV × St → Option Res => spec_l06At_g [.lst tVersion a0, .str a1, .int .i64 a2] [] (fun v s => k (v, s))) :=
  (spec_l06At_p a0 a1 a2).bind (H := fun (y : Int) (k : AV × St → Option Res) => (fun (y : Int) => k ((.int .i64 y : AV), ([] : St))) y) (fun y => par_ret _)

def spec_SeenAt_g (args : List AV) (st : St) (k : K1) : Option Res :=
  onPats [.lst tVersion, .str, .int .i64] [] args st (fun p q => spec_SeenAt_k p.1 p.2.1 p.2.2.1 (fun (y : (ByteArray × Bool)) => k (.tup [.str y.1, .bool y.2]) []))
    (none)

theorem spec_SeenAt_q (a0 : (List dVersion)) (a1 : ByteArray) (a2 : Int) : Par (fun k : AV × St → Option Res => spec_SeenAt_g [.lst tVersion a0, .str a1, .int .i64 a2] [] (fun v s => k (v, s))) :=
  (spec_SeenAt_p a0 a1 a2).bind (H := fun (y : (ByteArray × Bool)) (k : AV × St → Option Res) => (fun (y : (ByteArray × Bool)) => k ((.tup [.str y.1, .bool y.2] : AV), ([] : St))) y) (fun y => par_ret _)

def spec_ScanAt_g (args : List AV) (st : St) (k : K1) : Option Res :=
  onPats [.lst tVersion, .agg [.str, .str], .int .i64] [] args st (fun p q => spec_ScanAt_k p.1 (p.2.1.1, p.2.1.2.1) p.2.2.1 (fun (y : (List dRange)) => k (.own 0) [.arr tRange y]))
    (none)

theorem spec_ScanAt_q (a0 : (List dVersion)) (a1 : ByteArray) (a2 : ByteArray) (a3 : Int) : Par (fun k : AV × St → Option Res => spec_ScanAt_g [.lst tVersion a0, .agg [.str a1, .str a2], .int .i64 a3] [] (fun v s => k (v, s))) :=
  (spec_ScanAt_p a0 (a1, a2) a3).bind (H := fun (y : (List dRange)) (k : AV × St → Option Res) => (fun (y : (List dRange)) => k ((.own 0 : AV), ([.arr tRange y] : St))) y) (fun y => par_ret _)

def spec_l06Pairs_g (args : List AV) (st : St) (k : K1) : Option Res :=
  onPats [.lst tRange, .lst tRange] [] args st (fun p q => spec_l06Pairs_k p.1 p.2.1 (fun (y : Bool) => k (.bool y) []))
    (none)

theorem spec_l06Pairs_q (a0 : (List dRange)) (a1 : (List dRange)) : Par (fun k : AV × St → Option Res => spec_l06Pairs_g [.lst tRange a0, .lst tRange a1] [] (fun v s => k (v, s))) :=
  (spec_l06Pairs_p a0 a1).bind (H := fun (y : Bool) (k : AV × St → Option Res) => (fun (y : Bool) => k ((.bool y : AV), ([] : St))) y) (fun y => par_ret _)

def spec_SameFrom_g (args : List AV) (st : St) (k : K1) : Option Res :=
  onPats [.lst tVersion, .lst tVersion, .int .i64] [] args st (fun p q => spec_SameFrom_k p.1 p.2.1 p.2.2.1 (fun (y : Bool) => k (.bool y) []))
    (none)

theorem spec_SameFrom_q (a0 : (List dVersion)) (a1 : (List dVersion)) (a2 : Int) : Par (fun k : AV × St → Option Res => spec_SameFrom_g [.lst tVersion a0, .lst tVersion a1, .int .i64 a2] [] (fun v s => k (v, s))) :=
  (spec_SameFrom_p a0 a1 a2).bind (H := fun (y : Bool) (k : AV × St → Option Res) => (fun (y : Bool) => k ((.bool y : AV), ([] : St))) y) (fun y => par_ret _)

def spec_LikeBase_g (args : List AV) (st : St) (k : K1) : Option Res :=
  onPats [.agg [.lst tVersion, .lst tTxn, .lst tTxn, .int .i64, .int .i64], .agg [.lst tVersion, .lst tTxn, .lst tTxn, .int .i64, .int .i64]] [] args st (fun p q => spec_LikeBase_k (p.1.1, (p.1.2.1, (p.1.2.2.1, (p.1.2.2.2.1, p.1.2.2.2.2.1)))) (p.2.1.1, (p.2.1.2.1, (p.2.1.2.2.1, (p.2.1.2.2.2.1, p.2.1.2.2.2.2.1)))) (fun (y : Bool) => k (.bool y) []))
    (none)

theorem spec_LikeBase_q (a0 : (List dVersion)) (a1 : (List dTxn)) (a2 : (List dTxn)) (a3 : Int) (a4 : Int) (a5 : (List dVersion)) (a6 : (List dTxn)) (a7 : (List dTxn)) (a8 : Int) (a9 : Int) : Par (fun k : AV × St → Option Res => spec_LikeBase_g [.agg [.lst tVersion a0, .lst tTxn a1, .lst tTxn a2, .int .i64 a3, .int .i64 a4], .agg [.lst tVersion a5, .lst tTxn a6, .lst tTxn a7, .int .i64 a8, .int .i64 a9]] [] (fun v s => k (v, s))) :=
  (spec_LikeBase_p (a0, (a1, (a2, (a3, a4)))) (a5, (a6, (a7, (a8, a9))))).bind (H := fun (y : Bool) (k : AV × St → Option Res) => (fun (y : Bool) => k ((.bool y : AV), ([] : St))) y) (fun y => par_ret _)

def impl_within_g (args : List AV) (st : St) (k : K1) : Option Res :=
  onPats [.int .i64, .int .i64, .int .i64] [] args st (fun p q => impl_within_k p.1 p.2.1 p.2.2.1 (fun (y : Bool) => k (.bool y) []))
    (none)

theorem impl_within_q (a0 : Int) (a1 : Int) (a2 : Int) : Par (fun k : AV × St → Option Res => impl_within_g [.int .i64 a0, .int .i64 a1, .int .i64 a2] [] (fun v s => k (v, s))) :=
  (impl_within_p a0 a1 a2).bind (H := fun (y : Bool) (k : AV × St → Option Res) => (fun (y : Bool) => k ((.bool y : AV), ([] : St))) y) (fun y => par_ret _)

def impl_KeyOk_g (args : List AV) (st : St) (k : K1) : Option Res :=
  onPats [.str] [] args st (fun p q => impl_KeyOk_k p.1 (fun (y : Bool) => k (.bool y) []))
    (none)

theorem impl_KeyOk_q (a0 : ByteArray) : Par (fun k : AV × St → Option Res => impl_KeyOk_g [.str a0] [] (fun v s => k (v, s))) :=
  (impl_KeyOk_p a0).bind (H := fun (y : Bool) (k : AV × St → Option Res) => (fun (y : Bool) => k ((.bool y : AV), ([] : St))) y) (fun y => par_ret _)

def impl_RangeOk_g (args : List AV) (st : St) (k : K1) : Option Res :=
  onPats [.agg [.str, .str]] [] args st (fun p q => impl_RangeOk_k (p.1.1, p.1.2.1) (fun (y : Bool) => k (.bool y) []))
    (none)

theorem impl_RangeOk_q (a0 : ByteArray) (a1 : ByteArray) : Par (fun k : AV × St → Option Res => impl_RangeOk_g [.agg [.str a0, .str a1]] [] (fun v s => k (v, s))) :=
  (impl_RangeOk_p (a0, a1)).bind (H := fun (y : Bool) (k : AV × St → Option Res) => (fun (y : Bool) => k ((.bool y : AV), ([] : St))) y) (fun y => par_ret _)

def impl_WriteOk_g (args : List AV) (st : St) (k : K1) : Option Res :=
  onPats [.agg [.str, .str, .bool]] [] args st (fun p q => impl_WriteOk_k (p.1.1, (p.1.2.1, p.1.2.2.1)) (fun (y : Bool) => k (.bool y) []))
    (none)

theorem impl_WriteOk_q (a0 : ByteArray) (a1 : ByteArray) (a2 : Bool) : Par (fun k : AV × St → Option Res => impl_WriteOk_g [.agg [.str a0, .str a1, .bool a2]] [] (fun v s => k (v, s))) :=
  (impl_WriteOk_p (a0, (a1, a2))).bind (H := fun (y : Bool) (k : AV × St → Option Res) => (fun (y : Bool) => k ((.bool y : AV), ([] : St))) y) (fun y => par_ret _)

def impl_WritesOk_g (args : List AV) (st : St) (k : K1) : Option Res :=
  onPats [.lst tWrite] [] args st (fun p q => impl_WritesOk_k p.1 (fun (y : Bool) => k (.bool y) []))
    (none)

theorem impl_WritesOk_q (a0 : (List dWrite)) : Par (fun k : AV × St → Option Res => impl_WritesOk_g [.lst tWrite a0] [] (fun v s => k (v, s))) :=
  (impl_WritesOk_p a0).bind (H := fun (y : Bool) (k : AV × St → Option Res) => (fun (y : Bool) => k ((.bool y : AV), ([] : St))) y) (fun y => par_ret _)

def impl_TxnOk_g (args : List AV) (st : St) (k : K1) : Option Res :=
  onPats [.agg [.int .i64, .int .i64, .int .i64, .int .i64, .lst tRange, .lst tWrite, .bool, .str]] [] args st (fun p q => impl_TxnOk_k (p.1.1, (p.1.2.1, (p.1.2.2.1, (p.1.2.2.2.1, (p.1.2.2.2.2.1, (p.1.2.2.2.2.2.1, (p.1.2.2.2.2.2.2.1, p.1.2.2.2.2.2.2.2.1))))))) (fun (y : Bool) => k (.bool y) []))
    (none)

theorem impl_TxnOk_q (a0 : Int) (a1 : Int) (a2 : Int) (a3 : Int) (a4 : (List dRange)) (a5 : (List dWrite)) (a6 : Bool) (a7 : ByteArray) : Par (fun k : AV × St → Option Res => impl_TxnOk_g [.agg [.int .i64 a0, .int .i64 a1, .int .i64 a2, .int .i64 a3, .lst tRange a4, .lst tWrite a5, .bool a6, .str a7]] [] (fun v s => k (v, s))) :=
  (impl_TxnOk_p (a0, (a1, (a2, (a3, (a4, (a5, (a6, a7)))))))).bind (H := fun (y : Bool) (k : AV × St → Option Res) => (fun (y : Bool) => k ((.bool y : AV), ([] : St))) y) (fun y => par_ret _)

def impl_VarText_g (args : List AV) (st : St) (k : K1) : Option Res :=
  onPats [.int .i64] [] args st (fun p q => impl_VarText_k p.1 (fun (y : (ByteArray × Bool)) => k (.tup [.str y.1, .bool y.2]) []))
    (none)

theorem impl_VarText_q (a0 : Int) : Par (fun k : AV × St → Option Res => impl_VarText_g [.int .i64 a0] [] (fun v s => k (v, s))) :=
  (impl_VarText_p a0).bind (H := fun (y : (ByteArray × Bool)) (k : AV × St → Option Res) => (fun (y : (ByteArray × Bool)) => k ((.tup [.str y.1, .bool y.2] : AV), ([] : St))) y) (fun y => par_ret _)

def impl_plan_num_g (args : List AV) (st : St) (k : K1) : Option Res :=
  onPats [.bp 0 0, .lst (.int .i64)] [.box [.nilS]] args st (fun p q => impl_plan_num_k p.2.1 (fun (y : (List Int)) => k (.tup []) [.box [.own 1], .arr (.int .u8) y]))
    (onPats [.bp 0 0, .lst (.int .i64)] [.box [.own 1], .arr (.int .u8)] args st (fun p q => impl_plan_num_61bd_k p.2.1 q.2.1 (Sum.elim (fun (y : (List Int)) => k (.tup []) [.box [.own 1], .arr (.int .u8) y]) (fun (y : (List Int)) => k (.tup []) [.box [.own 2], .gone, .arr (.int .u8) y])))
    (none))

theorem impl_plan_num_q (a0 : (List Int)) : Par (fun k : AV × St → Option Res => impl_plan_num_g [.bp 0 0, .lst (.int .i64) a0] [.box [.nilS]] (fun v s => k (v, s))) :=
  (impl_plan_num_p a0).bind (H := fun (y : (List Int)) (k : AV × St → Option Res) => (fun (y : (List Int)) => k ((.tup [] : AV), ([.box [.own 1], .arr (.int .u8) y] : St))) y) (fun y => par_ret _)

theorem impl_plan_num_61bd_q (a0 : (List Int)) (a1 : (List Int)) : Par (fun k : AV × St → Option Res => impl_plan_num_g [.bp 0 0, .lst (.int .i64) a0] [.box [.own 1], .arr (.int .u8) a1] (fun v s => k (v, s))) :=
  (impl_plan_num_61bd_p a0 a1).bind (H := fun (y : ((List Int) ⊕ (List Int))) (k : AV × St → Option Res) => (Sum.elim (fun (y : (List Int)) => k ((.tup [] : AV), ([.box [.own 1], .arr (.int .u8) y] : St))) (fun (y : (List Int)) => k ((.tup [] : AV), ([.box [.own 2], .gone, .arr (.int .u8) y] : St)))) y) (fun y => by rcases y with y | y <;> exact par_ret _)

def impl_ShortText_g (args : List AV) (st : St) (k : K1) : Option Res :=
  onPats [.str] [] args st (fun p q => impl_ShortText_k p.1 (fun (y : (ByteArray × Bool)) => k (.tup [.str y.1, .bool y.2]) []))
    (none)

theorem impl_ShortText_q (a0 : ByteArray) : Par (fun k : AV × St → Option Res => impl_ShortText_g [.str a0] [] (fun v s => k (v, s))) :=
  (impl_ShortText_p a0).bind (H := fun (y : (ByteArray × Bool)) (k : AV × St → Option Res) => (fun (y : (ByteArray × Bool)) => k ((.tup [.str y.1, .bool y.2] : AV), ([] : St))) y) (fun y => par_ret _)

def impl_plan_text_g (args : List AV) (st : St) (k : K1) : Option Res :=
  onPats [.bp 0 0, .lst .str] [.box [.own 1], .arr (.int .u8)] args st (fun p q => impl_plan_text_k p.2.1 q.2.1 (Sum.elim (fun (y : (List Int)) => k (.tup []) [.box [.own 1], .arr (.int .u8) y]) (fun (y : (List Int)) => k (.tup []) [.box [.own 2], .gone, .arr (.int .u8) y])))
    (none)

theorem impl_plan_text_q (a0 : (List ByteArray)) (a1 : (List Int)) : Par (fun k : AV × St → Option Res => impl_plan_text_g [.bp 0 0, .lst .str a0] [.box [.own 1], .arr (.int .u8) a1] (fun v s => k (v, s))) :=
  (impl_plan_text_p a0 a1).bind (H := fun (y : ((List Int) ⊕ (List Int))) (k : AV × St → Option Res) => (Sum.elim (fun (y : (List Int)) => k ((.tup [] : AV), ([.box [.own 1], .arr (.int .u8) y] : St))) (fun (y : (List Int)) => k ((.tup [] : AV), ([.box [.own 2], .gone, .arr (.int .u8) y] : St)))) y) (fun y => by rcases y with y | y <;> exact par_ret _)

def impl_plan_flag_g (args : List AV) (st : St) (k : K1) : Option Res :=
  onPats [.bp 0 0, .bool] [.box [.own 1], .arr (.int .u8)] args st (fun p q => impl_plan_flag_k p.2.1 q.2.1 (fun (y : (List Int)) => k (.tup []) [.box [.own 2], .gone, .arr (.int .u8) y]))
    (none)

theorem impl_plan_flag_q (a0 : Bool) (a1 : (List Int)) : Par (fun k : AV × St → Option Res => impl_plan_flag_g [.bp 0 0, .bool a0] [.box [.own 1], .arr (.int .u8) a1] (fun v s => k (v, s))) :=
  (impl_plan_flag_p a0 a1).bind (H := fun (y : (List Int)) (k : AV × St → Option Res) => (fun (y : (List Int)) => k ((.tup [] : AV), ([.box [.own 2], .gone, .arr (.int .u8) y] : St))) y) (fun y => par_ret _)

def impl_TxnText_g (args : List AV) (st : St) (k : K1) : Option Res :=
  onPats [.agg [.int .i64, .int .i64, .int .i64, .int .i64, .lst tRange, .lst tWrite, .bool, .str]] [] args st (fun p q => impl_TxnText_k (p.1.1, (p.1.2.1, (p.1.2.2.1, (p.1.2.2.2.1, (p.1.2.2.2.2.1, (p.1.2.2.2.2.2.1, (p.1.2.2.2.2.2.2.1, p.1.2.2.2.2.2.2.2.1))))))) (fun (y : (ByteArray × Bool)) => k (.tup [.str y.1, .bool y.2]) []))
    (none)

theorem impl_TxnText_q (a0 : Int) (a1 : Int) (a2 : Int) (a3 : Int) (a4 : (List dRange)) (a5 : (List dWrite)) (a6 : Bool) (a7 : ByteArray) : Par (fun k : AV × St → Option Res => impl_TxnText_g [.agg [.int .i64 a0, .int .i64 a1, .int .i64 a2, .int .i64 a3, .lst tRange a4, .lst tWrite a5, .bool a6, .str a7]] [] (fun v s => k (v, s))) :=
  (impl_TxnText_p (a0, (a1, (a2, (a3, (a4, (a5, (a6, a7)))))))).bind (H := fun (y : (ByteArray × Bool)) (k : AV × St → Option Res) => (fun (y : (ByteArray × Bool)) => k ((.tup [.str y.1, .bool y.2] : AV), ([] : St))) y) (fun y => par_ret _)

def impl_sameText_g (args : List AV) (st : St) (k : K1) : Option Res :=
  onPats [.agg [.int .i64, .int .i64, .int .i64, .int .i64, .lst tRange, .lst tWrite, .bool, .str], .agg [.int .i64, .int .i64, .int .i64, .int .i64, .lst tRange, .lst tWrite, .bool, .str]] [] args st (fun p q => impl_sameText_k (p.1.1, (p.1.2.1, (p.1.2.2.1, (p.1.2.2.2.1, (p.1.2.2.2.2.1, (p.1.2.2.2.2.2.1, (p.1.2.2.2.2.2.2.1, p.1.2.2.2.2.2.2.2.1))))))) (p.2.1.1, (p.2.1.2.1, (p.2.1.2.2.1, (p.2.1.2.2.2.1, (p.2.1.2.2.2.2.1, (p.2.1.2.2.2.2.2.1, (p.2.1.2.2.2.2.2.2.1, p.2.1.2.2.2.2.2.2.2.1))))))) (fun (y : Bool) => k (.bool y) []))
    (none)

theorem impl_sameText_q (a0 : Int) (a1 : Int) (a2 : Int) (a3 : Int) (a4 : (List dRange)) (a5 : (List dWrite)) (a6 : Bool) (a7 : ByteArray) (a8 : Int) (a9 : Int) (a10 : Int) (a11 : Int) (a12 : (List dRange)) (a13 : (List dWrite)) (a14 : Bool) (a15 : ByteArray) : Par (fun k : AV × St → Option Res => impl_sameText_g [.agg [.int .i64 a0, .int .i64 a1, .int .i64 a2, .int .i64 a3, .lst tRange a4, .lst tWrite a5, .bool a6, .str a7], .agg [.int .i64 a8, .int .i64 a9, .int .i64 a10, .int .i64 a11, .lst tRange a12, .lst tWrite a13, .bool a14, .str a15]] [] (fun v s => k (v, s))) :=
  (impl_sameText_p (a0, (a1, (a2, (a3, (a4, (a5, (a6, a7))))))) (a8, (a9, (a10, (a11, (a12, (a13, (a14, a15)))))))).bind (H := fun (y : Bool) (k : AV × St → Option Res) => (fun (y : Bool) => k ((.bool y : AV), ([] : St))) y) (fun y => par_ret _)

def slices_EqualFunc_Txn_g (args : List AV) (st : St) (k : K1) : Option Res :=
  onPats [.lst tTxn, .lst tTxn, .fn 144 []] [] args st (fun p q => slices_EqualFunc_Txn_sameText_k p.1 p.2.1 (fun (y : Bool) => k (.bool y) []))
    (none)

theorem slices_EqualFunc_Txn_sameText_q (a0 : (List dTxn)) (a1 : (List dTxn)) : Par (fun k : AV × St → Option Res => slices_EqualFunc_Txn_g [.lst tTxn a0, .lst tTxn a1, .fn 144 []] [] (fun v s => k (v, s))) :=
  (slices_EqualFunc_Txn_sameText_p a0 a1).bind (H := fun (y : Bool) (k : AV × St → Option Res) => (fun (y : Bool) => k ((.bool y : AV), ([] : St))) y) (fun y => par_ret _)

def slices_Grow_Version_g (args : List AV) (st : St) (k : K1) : Option Res :=
  onPats [.nilS, .int .i64] [] args st (fun p q => slices_Grow_Version_vn_k p.2.1 (fun (y : (List dVersion)) => k (.own 0) [.arr tVersion y]))
    (none)

theorem slices_Grow_Version_vn_q (a0 : Int) : Par (fun k : AV × St → Option Res => slices_Grow_Version_g [.nilS, .int .i64 a0] [] (fun v s => k (v, s))) :=
  (slices_Grow_Version_vn_p a0).bind (H := fun (y : (List dVersion)) (k : AV × St → Option Res) => (fun (y : (List dVersion)) => k ((.own 0 : AV), ([.arr tVersion y] : St))) y) (fun y => par_ret _)

def slices_Concat_Version_g (args : List AV) (st : St) (k : K1) : Option Res :=
  onPats [.lst (.slice tVersion)] [] args st (fun p q => slices_Concat_Version_k p.1 (fun (y : (List dVersion)) => k (.own 0) [.arr tVersion y]))
    (none)

theorem slices_Concat_Version_q (a0 : (List (List dVersion))) : Par (fun k : AV × St → Option Res => slices_Concat_Version_g [.lst (.slice tVersion) a0] [] (fun v s => k (v, s))) :=
  (slices_Concat_Version_p a0).bind (H := fun (y : (List dVersion)) (k : AV × St → Option Res) => (fun (y : (List dVersion)) => k ((.own 0 : AV), ([.arr tVersion y] : St))) y) (fun y => par_ret _)

def impl_allKeys_g (args : List AV) (st : St) (k : K1) : Option Res :=
  onPats [] [] args st (fun p q => impl_allKeys_k  (fun (y : (ByteArray × ByteArray)) => k (.agg [.str y.1, .str y.2]) []))
    (none)

theorem impl_allKeys_q  : Par (fun k : AV × St → Option Res => impl_allKeys_g [] [] (fun v s => k (v, s))) :=
  (impl_allKeys_p ).bind (H := fun (y : (ByteArray × ByteArray)) (k : AV × St → Option Res) => (fun (y : (ByteArray × ByteArray)) => k ((.agg [.str y.1, .str y.2] : AV), ([] : St))) y) (fun y => par_ret _)

def slices_Sort_string_g (args : List AV) (st : St) (k : K1) : Option Res :=
  onPats [.own 0] [.arr .str] args st (fun p q => slices_Sort_string_vo_k q.1 (fun (y : (List ByteArray)) => k (.tup []) [.arr .str y]))
    (none)

theorem slices_Sort_string_vo_q (a0 : (List ByteArray)) : Par (fun k : AV × St → Option Res => slices_Sort_string_g [.own 0] [.arr .str a0] (fun v s => k (v, s))) :=
  (slices_Sort_string_vo_p a0).bind (H := fun (y : (List ByteArray)) (k : AV × St → Option Res) => (fun (y : (List ByteArray)) => k ((.tup [] : AV), ([.arr .str y] : St))) y) (fun y => par_ret _)

def slices_Compact_string_g (args : List AV) (st : St) (k : K1) : Option Res :=
  onPats [.own 0] [.arr .str] args st (fun p q => slices_Compact_string_vo_k q.1 (Sum.elim (fun (y : (List ByteArray)) => k (.own 0) [.arr .str y]) (fun (y : (List ByteArray)) => k (.own 1) [.gone, .arr .str y])))
    (none)

theorem slices_Compact_string_vo_q (a0 : (List ByteArray)) : Par (fun k : AV × St → Option Res => slices_Compact_string_g [.own 0] [.arr .str a0] (fun v s => k (v, s))) :=
  (slices_Compact_string_vo_p a0).bind (H := fun (y : ((List ByteArray) ⊕ (List ByteArray))) (k : AV × St → Option Res) => (Sum.elim (fun (y : (List ByteArray)) => k ((.own 0 : AV), ([.arr .str y] : St))) (fun (y : (List ByteArray)) => k ((.own 1 : AV), ([.gone, .arr .str y] : St)))) y) (fun y => by rcases y with y | y <;> exact par_ret _)

def impl_keysOf_g (args : List AV) (st : St) (k : K1) : Option Res :=
  onPats [.lst tVersion] [] args st (fun p q => impl_keysOf_k p.1 (fun (y : (List ByteArray)) => k (.own 0) [.arr .str y]))
    (none)

theorem impl_keysOf_q (a0 : (List dVersion)) : Par (fun k : AV × St → Option Res => impl_keysOf_g [.lst tVersion a0] [] (fun v s => k (v, s))) :=
  (impl_keysOf_p a0).bind (H := fun (y : (List ByteArray)) (k : AV × St → Option Res) => (fun (y : (List ByteArray)) => k ((.own 0 : AV), ([.arr .str y] : St))) y) (fun y => par_ret _)

def impl_lastAt_g (args : List AV) (st : St) (k : K1) : Option Res :=
  onPats [.lst tVersion, .str, .int .i64] [] args st (fun p q => impl_lastAt_k p.1 p.2.1 p.2.2.1 (fun (y : Int) => k (.int .i64 y) []))
    (none)

theorem impl_lastAt_q (a0 : (List dVersion)) (a1 : ByteArray) (a2 : Int) : Par (fun k : AV × St → Option Res => impl_lastAt_g [.lst tVersion a0, .str a1, .int .i64 a2] [] (fun v s => k (v, s))) :=
  (impl_lastAt_p a0 a1 a2).bind (H := fun (y : Int) (k : AV × St → Option Res) => (fun (y : Int) => k ((.int .i64 y : AV), ([] : St))) y) (fun y => par_ret _)

def impl_SeenAt_g (args : List AV) (st : St) (k : K1) : Option Res :=
  onPats [.lst tVersion, .str, .int .i64] [] args st (fun p q => impl_SeenAt_k p.1 p.2.1 p.2.2.1 (fun (y : (ByteArray × Bool)) => k (.tup [.str y.1, .bool y.2]) []))
    (none)

theorem impl_SeenAt_q (a0 : (List dVersion)) (a1 : ByteArray) (a2 : Int) : Par (fun k : AV × St → Option Res => impl_SeenAt_g [.lst tVersion a0, .str a1, .int .i64 a2] [] (fun v s => k (v, s))) :=
  (impl_SeenAt_p a0 a1 a2).bind (H := fun (y : (ByteArray × Bool)) (k : AV × St → Option Res) => (fun (y : (ByteArray × Bool)) => k ((.tup [.str y.1, .bool y.2] : AV), ([] : St))) y) (fun y => par_ret _)

def impl_InRange_g (args : List AV) (st : St) (k : K1) : Option Res :=
  onPats [.agg [.str, .str], .str] [] args st (fun p q => impl_InRange_k (p.1.1, p.1.2.1) p.2.1 (fun (y : Bool) => k (.bool y) []))
    (none)

theorem impl_InRange_q (a0 : ByteArray) (a1 : ByteArray) (a2 : ByteArray) : Par (fun k : AV × St → Option Res => impl_InRange_g [.agg [.str a0, .str a1], .str a2] [] (fun v s => k (v, s))) :=
  (impl_InRange_p (a0, a1) a2).bind (H := fun (y : Bool) (k : AV × St → Option Res) => (fun (y : Bool) => k ((.bool y : AV), ([] : St))) y) (fun y => par_ret _)

def impl_ScanAt_g (args : List AV) (st : St) (k : K1) : Option Res :=
  onPats [.lst tVersion, .agg [.str, .str], .int .i64] [] args st (fun p q => impl_ScanAt_k p.1 (p.2.1.1, p.2.1.2.1) p.2.2.1 (fun (y : (List dRange)) => k (.own 0) [.arr tRange y]))
    (none)

theorem impl_ScanAt_q (a0 : (List dVersion)) (a1 : ByteArray) (a2 : ByteArray) (a3 : Int) : Par (fun k : AV × St → Option Res => impl_ScanAt_g [.lst tVersion a0, .agg [.str a1, .str a2], .int .i64 a3] [] (fun v s => k (v, s))) :=
  (impl_ScanAt_p a0 (a1, a2) a3).bind (H := fun (y : (List dRange)) (k : AV × St → Option Res) => (fun (y : (List dRange)) => k ((.own 0 : AV), ([.arr tRange y] : St))) y) (fun y => par_ret _)

def slices_Equal_Pair_g (args : List AV) (st : St) (k : K1) : Option Res :=
  onPats [.lst tRange, .lst tRange] [] args st (fun p q => slices_Equal_Pair_k p.1 p.2.1 (fun (y : Bool) => k (.bool y) []))
    (none)

theorem slices_Equal_Pair_q (a0 : (List dRange)) (a1 : (List dRange)) : Par (fun k : AV × St → Option Res => slices_Equal_Pair_g [.lst tRange a0, .lst tRange a1] [] (fun v s => k (v, s))) :=
  (slices_Equal_Pair_p a0 a1).bind (H := fun (y : Bool) (k : AV × St → Option Res) => (fun (y : Bool) => k ((.bool y : AV), ([] : St))) y) (fun y => par_ret _)

def impl_SameFrom_1_g (args : List AV) (st : St) (k : K1) : Option Res :=
  onPats [.int .i64, .bp 0 0, .bp 1 0] [.box [.lst tVersion], .box [.lst tVersion]] args st (fun p q => impl_SameFrom_1_k p.1 q.1.1 q.2.1.1 (fun (y : q31T) => k (.bool y.1) [.box [.lst tVersion y.2.1], .box [.lst tVersion y.2.2]]))
    (none)

theorem impl_SameFrom_1_q (a0 : Int) (a1 : (List dVersion)) (a2 : (List dVersion)) : Par (fun k : AV × St → Option Res => impl_SameFrom_1_g [.int .i64 a0, .bp 0 0, .bp 1 0] [.box [.lst tVersion a1], .box [.lst tVersion a2]] (fun v s => k (v, s))) :=
  (impl_SameFrom_1_p a0 a1 a2).bind (H := fun (y : q31T) (k : AV × St → Option Res) => (fun (y : q31T) => k ((.bool y.1 : AV), ([.box [.lst tVersion y.2.1], .box [.lst tVersion y.2.2]] : St))) y) (fun y => par_ret _)

def impl_SameFrom_g (args : List AV) (st : St) (k : K1) : Option Res :=
  onPats [.lst tVersion, .lst tVersion, .int .i64] [] args st (fun p q => impl_SameFrom_k p.1 p.2.1 p.2.2.1 (fun (y : Bool) => k (.bool y) []))
    (none)

theorem impl_SameFrom_q (a0 : (List dVersion)) (a1 : (List dVersion)) (a2 : Int) : Par (fun k : AV × St → Option Res => impl_SameFrom_g [.lst tVersion a0, .lst tVersion a1, .int .i64 a2] [] (fun v s => k (v, s))) :=
  (impl_SameFrom_p a0 a1 a2).bind (H := fun (y : Bool) (k : AV × St → Option Res) => (fun (y : Bool) => k ((.bool y : AV), ([] : St))) y) (fun y => par_ret _)

def impl_LikeBase_g (args : List AV) (st : St) (k : K1) : Option Res :=
  onPats [.agg [.lst tVersion, .lst tTxn, .lst tTxn, .int .i64, .int .i64], .agg [.lst tVersion, .lst tTxn, .lst tTxn, .int .i64, .int .i64]] [] args st (fun p q => impl_LikeBase_k (p.1.1, (p.1.2.1, (p.1.2.2.1, (p.1.2.2.2.1, p.1.2.2.2.2.1)))) (p.2.1.1, (p.2.1.2.1, (p.2.1.2.2.1, (p.2.1.2.2.2.1, p.2.1.2.2.2.2.1)))) (fun (y : Bool) => k (.bool y) []))
    (none)

theorem impl_LikeBase_q (a0 : (List dVersion)) (a1 : (List dTxn)) (a2 : (List dTxn)) (a3 : Int) (a4 : Int) (a5 : (List dVersion)) (a6 : (List dTxn)) (a7 : (List dTxn)) (a8 : Int) (a9 : Int) : Par (fun k : AV × St → Option Res => impl_LikeBase_g [.agg [.lst tVersion a0, .lst tTxn a1, .lst tTxn a2, .int .i64 a3, .int .i64 a4], .agg [.lst tVersion a5, .lst tTxn a6, .lst tTxn a7, .int .i64 a8, .int .i64 a9]] [] (fun v s => k (v, s))) :=
  (impl_LikeBase_p (a0, (a1, (a2, (a3, a4)))) (a5, (a6, (a7, (a8, a9))))).bind (H := fun (y : Bool) (k : AV × St → Option Res) => (fun (y : Bool) => k ((.bool y : AV), ([] : St))) y) (fun y => par_ret _)

def laws_eqVersion_g (args : List AV) (st : St) (k : K1) : Option Res :=
  onPats [.agg [.str, .str, .bool, .int .i64], .agg [.str, .str, .bool, .int .i64]] [] args st (fun p q => laws_eqVersion_k (p.1.1, (p.1.2.1, (p.1.2.2.1, p.1.2.2.2.1))) (p.2.1.1, (p.2.1.2.1, (p.2.1.2.2.1, p.2.1.2.2.2.1))) (fun (y : Bool) => k (.bool y) []))
    (none)

theorem laws_eqVersion_q (a0 : ByteArray) (a1 : ByteArray) (a2 : Bool) (a3 : Int) (a4 : ByteArray) (a5 : ByteArray) (a6 : Bool) (a7 : Int) : Par (fun k : AV × St → Option Res => laws_eqVersion_g [.agg [.str a0, .str a1, .bool a2, .int .i64 a3], .agg [.str a4, .str a5, .bool a6, .int .i64 a7]] [] (fun v s => k (v, s))) :=
  (laws_eqVersion_p (a0, (a1, (a2, a3))) (a4, (a5, (a6, a7)))).bind (H := fun (y : Bool) (k : AV × St → Option Res) => (fun (y : Bool) => k ((.bool y : AV), ([] : St))) y) (fun y => par_ret _)

def laws_eqVersionS_g (args : List AV) (st : St) (k : K1) : Option Res :=
  onPats [.lst tVersion, .lst tVersion] [] args st (fun p q => laws_eqVersionS_k p.1 p.2.1 (fun (y : Bool) => k (.bool y) []))
    (none)

theorem laws_eqVersionS_q (a0 : (List dVersion)) (a1 : (List dVersion)) : Par (fun k : AV × St → Option Res => laws_eqVersionS_g [.lst tVersion a0, .lst tVersion a1] [] (fun v s => k (v, s))) :=
  (laws_eqVersionS_p a0 a1).bind (H := fun (y : Bool) (k : AV × St → Option Res) => (fun (y : Bool) => k ((.bool y : AV), ([] : St))) y) (fun y => par_ret _)

def laws_eqRange_g (args : List AV) (st : St) (k : K1) : Option Res :=
  onPats [.agg [.str, .str], .agg [.str, .str]] [] args st (fun p q => laws_eqRange_k (p.1.1, p.1.2.1) (p.2.1.1, p.2.1.2.1) (fun (y : Bool) => k (.bool y) []))
    (none)

theorem laws_eqRange_q (a0 : ByteArray) (a1 : ByteArray) (a2 : ByteArray) (a3 : ByteArray) : Par (fun k : AV × St → Option Res => laws_eqRange_g [.agg [.str a0, .str a1], .agg [.str a2, .str a3]] [] (fun v s => k (v, s))) :=
  (laws_eqRange_p (a0, a1) (a2, a3)).bind (H := fun (y : Bool) (k : AV × St → Option Res) => (fun (y : Bool) => k ((.bool y : AV), ([] : St))) y) (fun y => par_ret _)

def laws_eqRangeS_g (args : List AV) (st : St) (k : K1) : Option Res :=
  onPats [.lst tRange, .lst tRange] [] args st (fun p q => laws_eqRangeS_k p.1 p.2.1 (fun (y : Bool) => k (.bool y) []))
    (none)

theorem laws_eqRangeS_q (a0 : (List dRange)) (a1 : (List dRange)) : Par (fun k : AV × St → Option Res => laws_eqRangeS_g [.lst tRange a0, .lst tRange a1] [] (fun v s => k (v, s))) :=
  (laws_eqRangeS_p a0 a1).bind (H := fun (y : Bool) (k : AV × St → Option Res) => (fun (y : Bool) => k ((.bool y : AV), ([] : St))) y) (fun y => par_ret _)

def laws_eqWrite_g (args : List AV) (st : St) (k : K1) : Option Res :=
  onPats [.agg [.str, .str, .bool], .agg [.str, .str, .bool]] [] args st (fun p q => laws_eqWrite_k (p.1.1, (p.1.2.1, p.1.2.2.1)) (p.2.1.1, (p.2.1.2.1, p.2.1.2.2.1)) (fun (y : Bool) => k (.bool y) []))
    (none)

theorem laws_eqWrite_q (a0 : ByteArray) (a1 : ByteArray) (a2 : Bool) (a3 : ByteArray) (a4 : ByteArray) (a5 : Bool) : Par (fun k : AV × St → Option Res => laws_eqWrite_g [.agg [.str a0, .str a1, .bool a2], .agg [.str a3, .str a4, .bool a5]] [] (fun v s => k (v, s))) :=
  (laws_eqWrite_p (a0, (a1, a2)) (a3, (a4, a5))).bind (H := fun (y : Bool) (k : AV × St → Option Res) => (fun (y : Bool) => k ((.bool y : AV), ([] : St))) y) (fun y => par_ret _)

def laws_eqWriteS_g (args : List AV) (st : St) (k : K1) : Option Res :=
  onPats [.lst tWrite, .lst tWrite] [] args st (fun p q => laws_eqWriteS_k p.1 p.2.1 (fun (y : Bool) => k (.bool y) []))
    (none)

theorem laws_eqWriteS_q (a0 : (List dWrite)) (a1 : (List dWrite)) : Par (fun k : AV × St → Option Res => laws_eqWriteS_g [.lst tWrite a0, .lst tWrite a1] [] (fun v s => k (v, s))) :=
  (laws_eqWriteS_p a0 a1).bind (H := fun (y : Bool) (k : AV × St → Option Res) => (fun (y : Bool) => k ((.bool y : AV), ([] : St))) y) (fun y => par_ret _)

def laws_eqTxn_g (args : List AV) (st : St) (k : K1) : Option Res :=
  onPats [.agg [.int .i64, .int .i64, .int .i64, .int .i64, .lst tRange, .lst tWrite, .bool, .str], .agg [.int .i64, .int .i64, .int .i64, .int .i64, .lst tRange, .lst tWrite, .bool, .str]] [] args st (fun p q => laws_eqTxn_k (p.1.1, (p.1.2.1, (p.1.2.2.1, (p.1.2.2.2.1, (p.1.2.2.2.2.1, (p.1.2.2.2.2.2.1, (p.1.2.2.2.2.2.2.1, p.1.2.2.2.2.2.2.2.1))))))) (p.2.1.1, (p.2.1.2.1, (p.2.1.2.2.1, (p.2.1.2.2.2.1, (p.2.1.2.2.2.2.1, (p.2.1.2.2.2.2.2.1, (p.2.1.2.2.2.2.2.2.1, p.2.1.2.2.2.2.2.2.2.1))))))) (fun (y : Bool) => k (.bool y) []))
    (none)

theorem laws_eqTxn_q (a0 : Int) (a1 : Int) (a2 : Int) (a3 : Int) (a4 : (List dRange)) (a5 : (List dWrite)) (a6 : Bool) (a7 : ByteArray) (a8 : Int) (a9 : Int) (a10 : Int) (a11 : Int) (a12 : (List dRange)) (a13 : (List dWrite)) (a14 : Bool) (a15 : ByteArray) : Par (fun k : AV × St → Option Res => laws_eqTxn_g [.agg [.int .i64 a0, .int .i64 a1, .int .i64 a2, .int .i64 a3, .lst tRange a4, .lst tWrite a5, .bool a6, .str a7], .agg [.int .i64 a8, .int .i64 a9, .int .i64 a10, .int .i64 a11, .lst tRange a12, .lst tWrite a13, .bool a14, .str a15]] [] (fun v s => k (v, s))) :=
  (laws_eqTxn_p (a0, (a1, (a2, (a3, (a4, (a5, (a6, a7))))))) (a8, (a9, (a10, (a11, (a12, (a13, (a14, a15)))))))).bind (H := fun (y : Bool) (k : AV × St → Option Res) => (fun (y : Bool) => k ((.bool y : AV), ([] : St))) y) (fun y => par_ret _)

def laws_eqTxnS_g (args : List AV) (st : St) (k : K1) : Option Res :=
  onPats [.lst tTxn, .lst tTxn] [] args st (fun p q => laws_eqTxnS_k p.1 p.2.1 (fun (y : Bool) => k (.bool y) []))
    (none)

theorem laws_eqTxnS_q (a0 : (List dTxn)) (a1 : (List dTxn)) : Par (fun k : AV × St → Option Res => laws_eqTxnS_g [.lst tTxn a0, .lst tTxn a1] [] (fun v s => k (v, s))) :=
  (laws_eqTxnS_p a0 a1).bind (H := fun (y : Bool) (k : AV × St → Option Res) => (fun (y : Bool) => k ((.bool y : AV), ([] : St))) y) (fun y => par_ret _)

def laws_eqBase_g (args : List AV) (st : St) (k : K1) : Option Res :=
  onPats [.agg [.lst tVersion, .lst tTxn, .lst tTxn, .int .i64, .int .i64], .agg [.lst tVersion, .lst tTxn, .lst tTxn, .int .i64, .int .i64]] [] args st (fun p q => laws_eqBase_k (p.1.1, (p.1.2.1, (p.1.2.2.1, (p.1.2.2.2.1, p.1.2.2.2.2.1)))) (p.2.1.1, (p.2.1.2.1, (p.2.1.2.2.1, (p.2.1.2.2.2.1, p.2.1.2.2.2.2.1)))) (fun (y : Bool) => k (.bool y) []))
    (none)

theorem laws_eqBase_q (a0 : (List dVersion)) (a1 : (List dTxn)) (a2 : (List dTxn)) (a3 : Int) (a4 : Int) (a5 : (List dVersion)) (a6 : (List dTxn)) (a7 : (List dTxn)) (a8 : Int) (a9 : Int) : Par (fun k : AV × St → Option Res => laws_eqBase_g [.agg [.lst tVersion a0, .lst tTxn a1, .lst tTxn a2, .int .i64 a3, .int .i64 a4], .agg [.lst tVersion a5, .lst tTxn a6, .lst tTxn a7, .int .i64 a8, .int .i64 a9]] [] (fun v s => k (v, s))) :=
  (laws_eqBase_p (a0, (a1, (a2, (a3, a4)))) (a5, (a6, (a7, (a8, a9))))).bind (H := fun (y : Bool) (k : AV × St → Option Res) => (fun (y : Bool) => k ((.bool y : AV), ([] : St))) y) (fun y => par_ret _)

def laws_FnExactLikeBase_g (args : List AV) (st : St) (k : K1) : Option Res :=
  onPats [.agg [.lst tVersion, .lst tTxn, .lst tTxn, .int .i64, .int .i64], .agg [.lst tVersion, .lst tTxn, .lst tTxn, .int .i64, .int .i64]] [] args st (fun p q => laws_FnExactLikeBase_k (p.1.1, (p.1.2.1, (p.1.2.2.1, (p.1.2.2.2.1, p.1.2.2.2.2.1)))) (p.2.1.1, (p.2.1.2.1, (p.2.1.2.2.1, (p.2.1.2.2.2.1, p.2.1.2.2.2.2.1)))) (fun (y : Bool) => k (.bool y) []))
    (none)

theorem laws_FnExactLikeBase_q (a0 : (List dVersion)) (a1 : (List dTxn)) (a2 : (List dTxn)) (a3 : Int) (a4 : Int) (a5 : (List dVersion)) (a6 : (List dTxn)) (a7 : (List dTxn)) (a8 : Int) (a9 : Int) : Par (fun k : AV × St → Option Res => laws_FnExactLikeBase_g [.agg [.lst tVersion a0, .lst tTxn a1, .lst tTxn a2, .int .i64 a3, .int .i64 a4], .agg [.lst tVersion a5, .lst tTxn a6, .lst tTxn a7, .int .i64 a8, .int .i64 a9]] [] (fun v s => k (v, s))) :=
  (laws_FnExactLikeBase_p (a0, (a1, (a2, (a3, a4)))) (a5, (a6, (a7, (a8, a9))))).bind (H := fun (y : Bool) (k : AV × St → Option Res) => (fun (y : Bool) => k ((.bool y : AV), ([] : St))) y) (fun y => par_ret _)

end

end Go.VE
