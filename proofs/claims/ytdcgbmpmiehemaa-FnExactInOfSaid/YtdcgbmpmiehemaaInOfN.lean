/- Native programs of the functions, written by gen.py. -/

import Derived.Test.YtdcgbmpmiehemaaT0

namespace Go.VE

noncomputable section

set_option linter.unusedVariables false
set_option linter.unusedSimpArgs false
set_option maxRecDepth 100000


def laws_szRange_d (a0 : dRange) (a1 : Int) (k : Int → Option Res) : Option Res :=
  bif (decide ((IntKind.wrap .i64 (a1 - (a0.1.size : Int))) < (0 : Int))) then
    k (-1 : Int)
  else
    bif (decide ((IntKind.wrap .i64 ((IntKind.wrap .i64 (a1 - (a0.1.size : Int))) - (a0.2.size : Int))) < (0 : Int))) then
      k (-1 : Int)
    else
      k (IntKind.wrap .i64 ((IntKind.wrap .i64 (a1 - (a0.1.size : Int))) - (a0.2.size : Int)))

theorem laws_szRange_h : ∃ g : dRange → Int → (Int → Option Res) → Option Res, g = laws_szRange_d := ⟨_, rfl⟩
def laws_szRange_k : dRange → Int → (Int → Option Res) → Option Res := Classical.choose laws_szRange_h
theorem laws_szRange_e : laws_szRange_k = laws_szRange_d := Classical.choose_spec laws_szRange_h

theorem laws_szRange_p (a0 : dRange) (a1 : Int) : Par (laws_szRange_k a0 a1) := by
  rw [laws_szRange_e]
  unfold laws_szRange_d
  exact (par_bif (par_ret _) (par_bif (par_ret _) (par_ret _)))

def laws_szRangeS_b0 (x : ((List dRange) × Int × Int × Int)) (k : ((List dRange) × Int × Int × Int) ⊕ (((List dRange) × Int × Int × Int) ⊕ ((List dRange) × Int × Int × Int)) → Option Res) : Option Res :=
    bif (decide (x.2.2.2 < (x.1.length : Int))) then
      if 0 ≤ x.2.2.2 ∧ x.2.2.2 < (x.1.length : Int) then
        laws_szRange_k (rd (Ty.zero tRange) x.1 x.2.2.2) x.2.1 (fun y3 =>
          bif (decide (y3 < (0 : Int))) then
            k (.inr (.inl (x.1, y3, (-1 : Int), x.2.2.2)))
          else
            k (.inl (x.1, y3, x.2.2.1, (IntKind.wrap .i64 (x.2.2.2 + (1 : Int))))))
      else none
    else
      k (.inr (.inr (x.1, x.2.1, x.2.2.1, x.2.2.2)))

theorem laws_szRangeS_bp0 (x : ((List dRange) × Int × Int × Int)) : Par (laws_szRangeS_b0 x) := by
  unfold laws_szRangeS_b0
  exact (par_bif (par_ite ((laws_szRange_p (rd (Ty.zero tRange) x.1 x.2.2.2) x.2.1).bind fun y3 => (par_bif (par_ret _) (par_ret _))) par_none) (par_ret _))

def laws_szRangeS_d (a0 : (List dRange)) (a1 : Int) (k : Int → Option Res) : Option Res :=
  bif (decide ((IntKind.wrap .i64 (a1 - (a0.length : Int))) < (0 : Int))) then
    k (-1 : Int)
  else
    loopK laws_szRangeS_b0 Fuel (a0, (IntKind.wrap .i64 (a1 - (a0.length : Int))), (0 : Int), (0 : Int)) (Sum.elim (fun z1 =>
      k z1.2.2.1) (fun z2 =>
      k z2.2.1))

theorem laws_szRangeS_h : ∃ g : (List dRange) → Int → (Int → Option Res) → Option Res, g = laws_szRangeS_d := ⟨_, rfl⟩
def laws_szRangeS_k : (List dRange) → Int → (Int → Option Res) → Option Res := Classical.choose laws_szRangeS_h
theorem laws_szRangeS_e : laws_szRangeS_k = laws_szRangeS_d := Classical.choose_spec laws_szRangeS_h

theorem laws_szRangeS_p (a0 : (List dRange)) (a1 : Int) : Par (laws_szRangeS_k a0 a1) := by
  rw [laws_szRangeS_e]
  unfold laws_szRangeS_d
  exact (par_bif (par_ret _) ((par_loop laws_szRangeS_bp0 Fuel (a0, (IntKind.wrap .i64 (a1 - (a0.length : Int))), (0 : Int), (0 : Int))).bind2 (fun z1 => (par_ret _)) (fun z2 => (par_ret _))))

def laws_szWrite_d (a0 : dWrite) (a1 : Int) (k : Int → Option Res) : Option Res :=
  bif (decide ((IntKind.wrap .i64 (a1 - (a0.1.size : Int))) < (0 : Int))) then
    k (-1 : Int)
  else
    bif (decide ((IntKind.wrap .i64 ((IntKind.wrap .i64 (a1 - (a0.1.size : Int))) - (a0.2.1.size : Int))) < (0 : Int))) then
      k (-1 : Int)
    else
      k (IntKind.wrap .i64 ((IntKind.wrap .i64 (a1 - (a0.1.size : Int))) - (a0.2.1.size : Int)))

theorem laws_szWrite_h : ∃ g : dWrite → Int → (Int → Option Res) → Option Res, g = laws_szWrite_d := ⟨_, rfl⟩
def laws_szWrite_k : dWrite → Int → (Int → Option Res) → Option Res := Classical.choose laws_szWrite_h
theorem laws_szWrite_e : laws_szWrite_k = laws_szWrite_d := Classical.choose_spec laws_szWrite_h

theorem laws_szWrite_p (a0 : dWrite) (a1 : Int) : Par (laws_szWrite_k a0 a1) := by
  rw [laws_szWrite_e]
  unfold laws_szWrite_d
  exact (par_bif (par_ret _) (par_bif (par_ret _) (par_ret _)))

def laws_szWriteS_b0 (x : ((List dWrite) × Int × Int × Int)) (k : ((List dWrite) × Int × Int × Int) ⊕ (((List dWrite) × Int × Int × Int) ⊕ ((List dWrite) × Int × Int × Int)) → Option Res) : Option Res :=
    bif (decide (x.2.2.2 < (x.1.length : Int))) then
      if 0 ≤ x.2.2.2 ∧ x.2.2.2 < (x.1.length : Int) then
        laws_szWrite_k (rd (Ty.zero tWrite) x.1 x.2.2.2) x.2.1 (fun y3 =>
          bif (decide (y3 < (0 : Int))) then
            k (.inr (.inl (x.1, y3, (-1 : Int), x.2.2.2)))
          else
            k (.inl (x.1, y3, x.2.2.1, (IntKind.wrap .i64 (x.2.2.2 + (1 : Int))))))
      else none
    else
      k (.inr (.inr (x.1, x.2.1, x.2.2.1, x.2.2.2)))

theorem laws_szWriteS_bp0 (x : ((List dWrite) × Int × Int × Int)) : Par (laws_szWriteS_b0 x) := by
  unfold laws_szWriteS_b0
  exact (par_bif (par_ite ((laws_szWrite_p (rd (Ty.zero tWrite) x.1 x.2.2.2) x.2.1).bind fun y3 => (par_bif (par_ret _) (par_ret _))) par_none) (par_ret _))

def laws_szWriteS_d (a0 : (List dWrite)) (a1 : Int) (k : Int → Option Res) : Option Res :=
  bif (decide ((IntKind.wrap .i64 (a1 - (a0.length : Int))) < (0 : Int))) then
    k (-1 : Int)
  else
    loopK laws_szWriteS_b0 Fuel (a0, (IntKind.wrap .i64 (a1 - (a0.length : Int))), (0 : Int), (0 : Int)) (Sum.elim (fun z1 =>
      k z1.2.2.1) (fun z2 =>
      k z2.2.1))

theorem laws_szWriteS_h : ∃ g : (List dWrite) → Int → (Int → Option Res) → Option Res, g = laws_szWriteS_d := ⟨_, rfl⟩
def laws_szWriteS_k : (List dWrite) → Int → (Int → Option Res) → Option Res := Classical.choose laws_szWriteS_h
theorem laws_szWriteS_e : laws_szWriteS_k = laws_szWriteS_d := Classical.choose_spec laws_szWriteS_h

theorem laws_szWriteS_p (a0 : (List dWrite)) (a1 : Int) : Par (laws_szWriteS_k a0 a1) := by
  rw [laws_szWriteS_e]
  unfold laws_szWriteS_d
  exact (par_bif (par_ret _) ((par_loop laws_szWriteS_bp0 Fuel (a0, (IntKind.wrap .i64 (a1 - (a0.length : Int))), (0 : Int), (0 : Int))).bind2 (fun z1 => (par_ret _)) (fun z2 => (par_ret _))))

def laws_szTxn_d (a0 : dTxn) (a1 : Int) (k : Int → Option Res) : Option Res :=
  laws_szRangeS_k a0.2.2.2.2.1 a1 (fun y1 =>
    bif (decide (y1 < (0 : Int))) then
      k (-1 : Int)
    else
      laws_szWriteS_k a0.2.2.2.2.2.1 y1 (fun y2 =>
        bif (decide (y2 < (0 : Int))) then
          k (-1 : Int)
        else
          bif (decide ((IntKind.wrap .i64 (y2 - (a0.2.2.2.2.2.2.2.size : Int))) < (0 : Int))) then
            k (-1 : Int)
          else
            k (IntKind.wrap .i64 (y2 - (a0.2.2.2.2.2.2.2.size : Int)))))

theorem laws_szTxn_h : ∃ g : dTxn → Int → (Int → Option Res) → Option Res, g = laws_szTxn_d := ⟨_, rfl⟩
def laws_szTxn_k : dTxn → Int → (Int → Option Res) → Option Res := Classical.choose laws_szTxn_h
theorem laws_szTxn_e : laws_szTxn_k = laws_szTxn_d := Classical.choose_spec laws_szTxn_h

theorem laws_szTxn_p (a0 : dTxn) (a1 : Int) : Par (laws_szTxn_k a0 a1) := by
  rw [laws_szTxn_e]
  unfold laws_szTxn_d
  exact ((laws_szRangeS_p a0.2.2.2.2.1 a1).bind fun y1 => (par_bif (par_ret _) ((laws_szWriteS_p a0.2.2.2.2.2.1 y1).bind fun y2 => (par_bif (par_ret _) (par_bif (par_ret _) (par_ret _))))))

def laws_szTxnS_b0 (x : ((List dTxn) × Int × Int × Int)) (k : ((List dTxn) × Int × Int × Int) ⊕ (((List dTxn) × Int × Int × Int) ⊕ ((List dTxn) × Int × Int × Int)) → Option Res) : Option Res :=
    bif (decide (x.2.2.2 < (x.1.length : Int))) then
      if 0 ≤ x.2.2.2 ∧ x.2.2.2 < (x.1.length : Int) then
        laws_szTxn_k (rd (Ty.zero tTxn) x.1 x.2.2.2) x.2.1 (fun y3 =>
          bif (decide (y3 < (0 : Int))) then
            k (.inr (.inl (x.1, y3, (-1 : Int), x.2.2.2)))
          else
            k (.inl (x.1, y3, x.2.2.1, (IntKind.wrap .i64 (x.2.2.2 + (1 : Int))))))
      else none
    else
      k (.inr (.inr (x.1, x.2.1, x.2.2.1, x.2.2.2)))

theorem laws_szTxnS_bp0 (x : ((List dTxn) × Int × Int × Int)) : Par (laws_szTxnS_b0 x) := by
  unfold laws_szTxnS_b0
  exact (par_bif (par_ite ((laws_szTxn_p (rd (Ty.zero tTxn) x.1 x.2.2.2) x.2.1).bind fun y3 => (par_bif (par_ret _) (par_ret _))) par_none) (par_ret _))

def laws_szTxnS_d (a0 : (List dTxn)) (a1 : Int) (k : Int → Option Res) : Option Res :=
  bif (decide ((IntKind.wrap .i64 (a1 - (a0.length : Int))) < (0 : Int))) then
    k (-1 : Int)
  else
    loopK laws_szTxnS_b0 Fuel (a0, (IntKind.wrap .i64 (a1 - (a0.length : Int))), (0 : Int), (0 : Int)) (Sum.elim (fun z1 =>
      k z1.2.2.1) (fun z2 =>
      k z2.2.1))

theorem laws_szTxnS_h : ∃ g : (List dTxn) → Int → (Int → Option Res) → Option Res, g = laws_szTxnS_d := ⟨_, rfl⟩
def laws_szTxnS_k : (List dTxn) → Int → (Int → Option Res) → Option Res := Classical.choose laws_szTxnS_h
theorem laws_szTxnS_e : laws_szTxnS_k = laws_szTxnS_d := Classical.choose_spec laws_szTxnS_h

theorem laws_szTxnS_p (a0 : (List dTxn)) (a1 : Int) : Par (laws_szTxnS_k a0 a1) := by
  rw [laws_szTxnS_e]
  unfold laws_szTxnS_d
  exact (par_bif (par_ret _) ((par_loop laws_szTxnS_bp0 Fuel (a0, (IntKind.wrap .i64 (a1 - (a0.length : Int))), (0 : Int), (0 : Int))).bind2 (fun z1 => (par_ret _)) (fun z2 => (par_ret _))))

def laws_toRange_d (a0 : dRange) (k : (ByteArray × ByteArray) → Option Res) : Option Res :=
  k (a0.1, a0.2)

theorem laws_toRange_h : ∃ g : dRange → ((ByteArray × ByteArray) → Option Res) → Option Res, g = laws_toRange_d := ⟨_, rfl⟩
def laws_toRange_k : dRange → ((ByteArray × ByteArray) → Option Res) → Option Res := Classical.choose laws_toRange_h
theorem laws_toRange_e : laws_toRange_k = laws_toRange_d := Classical.choose_spec laws_toRange_h

theorem laws_toRange_p (a0 : dRange) : Par (laws_toRange_k a0) := by
  rw [laws_toRange_e]
  unfold laws_toRange_d
  exact (par_ret _)

def laws_toRangeS_b0 (x : ((List dRange) × Int × (List dRange))) (k : ((List dRange) × Int × (List dRange)) ⊕ ((List dRange) × Int × (List dRange)) → Option Res) : Option Res :=
    bif (decide (x.2.1 < (x.1.length : Int))) then
      if 0 ≤ x.2.1 ∧ x.2.1 < (x.1.length : Int) then
        laws_toRange_k (rd (Ty.zero tRange) x.1 x.2.1) (fun y2 =>
          if 0 ≤ x.2.1 ∧ x.2.1 < (x.2.2.length : Int) then
            k (.inl (x.1, (IntKind.wrap .i64 (x.2.1 + (1 : Int))), (x.2.2.set x.2.1.toNat y2)))
          else none)
      else none
    else
      k (.inr (x.1, x.2.1, x.2.2))

theorem laws_toRangeS_bp0 (x : ((List dRange) × Int × (List dRange))) : Par (laws_toRangeS_b0 x) := by
  unfold laws_toRangeS_b0
  exact (par_bif (par_ite ((laws_toRange_p (rd (Ty.zero tRange) x.1 x.2.1)).bind fun y2 => (par_ite (par_ret _) par_none)) par_none) (par_ret _))

def laws_toRangeS_d (a0 : (List dRange)) (k : (List dRange) → Option Res) : Option Res :=
  if 0 ≤ (a0.length : Int) ∧ (a0.length : Int) ≤ (a0.length : Int) ∧ (a0.length : Int) ≤ (VE.maxLen : Int) then
    loopK laws_toRangeS_b0 Fuel (a0, (0 : Int), (List.replicate (a0.length : Int).toNat (Ty.zero tRange))) (fun z1 =>
      k z1.2.2)
  else none

theorem laws_toRangeS_h : ∃ g : (List dRange) → ((List dRange) → Option Res) → Option Res, g = laws_toRangeS_d := ⟨_, rfl⟩
def laws_toRangeS_k : (List dRange) → ((List dRange) → Option Res) → Option Res := Classical.choose laws_toRangeS_h
theorem laws_toRangeS_e : laws_toRangeS_k = laws_toRangeS_d := Classical.choose_spec laws_toRangeS_h

theorem laws_toRangeS_p (a0 : (List dRange)) : Par (laws_toRangeS_k a0) := by
  rw [laws_toRangeS_e]
  unfold laws_toRangeS_d
  exact (par_ite ((par_loop laws_toRangeS_bp0 Fuel (a0, (0 : Int), (List.replicate (a0.length : Int).toNat (Ty.zero tRange)))).bind fun z1 => (par_ret _)) par_none)

def laws_toWrite_d (a0 : dWrite) (k : (ByteArray × ByteArray × Bool) → Option Res) : Option Res :=
  k (a0.1, a0.2.1, a0.2.2)

theorem laws_toWrite_h : ∃ g : dWrite → ((ByteArray × ByteArray × Bool) → Option Res) → Option Res, g = laws_toWrite_d := ⟨_, rfl⟩
def laws_toWrite_k : dWrite → ((ByteArray × ByteArray × Bool) → Option Res) → Option Res := Classical.choose laws_toWrite_h
theorem laws_toWrite_e : laws_toWrite_k = laws_toWrite_d := Classical.choose_spec laws_toWrite_h

theorem laws_toWrite_p (a0 : dWrite) : Par (laws_toWrite_k a0) := by
  rw [laws_toWrite_e]
  unfold laws_toWrite_d
  exact (par_ret _)

def laws_toWriteS_b0 (x : ((List dWrite) × Int × (List dWrite))) (k : ((List dWrite) × Int × (List dWrite)) ⊕ ((List dWrite) × Int × (List dWrite)) → Option Res) : Option Res :=
    bif (decide (x.2.1 < (x.1.length : Int))) then
      if 0 ≤ x.2.1 ∧ x.2.1 < (x.1.length : Int) then
        laws_toWrite_k (rd (Ty.zero tWrite) x.1 x.2.1) (fun y2 =>
          if 0 ≤ x.2.1 ∧ x.2.1 < (x.2.2.length : Int) then
            k (.inl (x.1, (IntKind.wrap .i64 (x.2.1 + (1 : Int))), (x.2.2.set x.2.1.toNat y2)))
          else none)
      else none
    else
      k (.inr (x.1, x.2.1, x.2.2))

theorem laws_toWriteS_bp0 (x : ((List dWrite) × Int × (List dWrite))) : Par (laws_toWriteS_b0 x) := by
  unfold laws_toWriteS_b0
  exact (par_bif (par_ite ((laws_toWrite_p (rd (Ty.zero tWrite) x.1 x.2.1)).bind fun y2 => (par_ite (par_ret _) par_none)) par_none) (par_ret _))

def laws_toWriteS_d (a0 : (List dWrite)) (k : (List dWrite) → Option Res) : Option Res :=
  if 0 ≤ (a0.length : Int) ∧ (a0.length : Int) ≤ (a0.length : Int) ∧ (a0.length : Int) ≤ (VE.maxLen : Int) then
    loopK laws_toWriteS_b0 Fuel (a0, (0 : Int), (List.replicate (a0.length : Int).toNat (Ty.zero tWrite))) (fun z1 =>
      k z1.2.2)
  else none

theorem laws_toWriteS_h : ∃ g : (List dWrite) → ((List dWrite) → Option Res) → Option Res, g = laws_toWriteS_d := ⟨_, rfl⟩
def laws_toWriteS_k : (List dWrite) → ((List dWrite) → Option Res) → Option Res := Classical.choose laws_toWriteS_h
theorem laws_toWriteS_e : laws_toWriteS_k = laws_toWriteS_d := Classical.choose_spec laws_toWriteS_h

theorem laws_toWriteS_p (a0 : (List dWrite)) : Par (laws_toWriteS_k a0) := by
  rw [laws_toWriteS_e]
  unfold laws_toWriteS_d
  exact (par_ite ((par_loop laws_toWriteS_bp0 Fuel (a0, (0 : Int), (List.replicate (a0.length : Int).toNat (Ty.zero tWrite)))).bind fun z1 => (par_ret _)) par_none)

def laws_toTxn_d (a0 : dTxn) (k : (Int × Int × Int × Int × Bool × ByteArray × (List dRange) × (List dWrite)) → Option Res) : Option Res :=
  laws_toRangeS_k a0.2.2.2.2.1 (fun y1 =>
    laws_toWriteS_k a0.2.2.2.2.2.1 (fun y2 =>
      k (a0.1, a0.2.1, a0.2.2.1, a0.2.2.2.1, a0.2.2.2.2.2.2.1, a0.2.2.2.2.2.2.2, y1, y2)))

theorem laws_toTxn_h : ∃ g : dTxn → ((Int × Int × Int × Int × Bool × ByteArray × (List dRange) × (List dWrite)) → Option Res) → Option Res, g = laws_toTxn_d := ⟨_, rfl⟩
def laws_toTxn_k : dTxn → ((Int × Int × Int × Int × Bool × ByteArray × (List dRange) × (List dWrite)) → Option Res) → Option Res := Classical.choose laws_toTxn_h
theorem laws_toTxn_e : laws_toTxn_k = laws_toTxn_d := Classical.choose_spec laws_toTxn_h

theorem laws_toTxn_p (a0 : dTxn) : Par (laws_toTxn_k a0) := by
  rw [laws_toTxn_e]
  unfold laws_toTxn_d
  exact ((laws_toRangeS_p a0.2.2.2.2.1).bind fun y1 => ((laws_toWriteS_p a0.2.2.2.2.2.1).bind fun y2 => (par_ret _)))

def laws_toTxnS_b0 (x : ((List dTxn) × Int × (List dTxn))) (k : ((List dTxn) × Int × (List dTxn)) ⊕ ((List dTxn) × Int × (List dTxn)) → Option Res) : Option Res :=
    bif (decide (x.2.1 < (x.1.length : Int))) then
      if 0 ≤ x.2.1 ∧ x.2.1 < (x.1.length : Int) then
        laws_toTxn_k (rd (Ty.zero tTxn) x.1 x.2.1) (fun y2 =>
          if 0 ≤ x.2.1 ∧ x.2.1 < (x.2.2.length : Int) then
            k (.inl (x.1, (IntKind.wrap .i64 (x.2.1 + (1 : Int))), (x.2.2.set x.2.1.toNat (y2.1, (y2.2.1, (y2.2.2.1, (y2.2.2.2.1, (y2.2.2.2.2.2.2.1, (y2.2.2.2.2.2.2.2, (y2.2.2.2.2.1, y2.2.2.2.2.2.1))))))))))
          else none)
      else none
    else
      k (.inr (x.1, x.2.1, x.2.2))

theorem laws_toTxnS_bp0 (x : ((List dTxn) × Int × (List dTxn))) : Par (laws_toTxnS_b0 x) := by
  unfold laws_toTxnS_b0
  exact (par_bif (par_ite ((laws_toTxn_p (rd (Ty.zero tTxn) x.1 x.2.1)).bind fun y2 => (par_ite (par_ret _) par_none)) par_none) (par_ret _))

def laws_toTxnS_d (a0 : (List dTxn)) (k : (List dTxn) → Option Res) : Option Res :=
  if 0 ≤ (a0.length : Int) ∧ (a0.length : Int) ≤ (a0.length : Int) ∧ (a0.length : Int) ≤ (VE.maxLen : Int) then
    loopK laws_toTxnS_b0 Fuel (a0, (0 : Int), (List.replicate (a0.length : Int).toNat (Ty.zero tTxn))) (fun z1 =>
      k z1.2.2)
  else none

theorem laws_toTxnS_h : ∃ g : (List dTxn) → ((List dTxn) → Option Res) → Option Res, g = laws_toTxnS_d := ⟨_, rfl⟩
def laws_toTxnS_k : (List dTxn) → ((List dTxn) → Option Res) → Option Res := Classical.choose laws_toTxnS_h
theorem laws_toTxnS_e : laws_toTxnS_k = laws_toTxnS_d := Classical.choose_spec laws_toTxnS_h

theorem laws_toTxnS_p (a0 : (List dTxn)) : Par (laws_toTxnS_k a0) := by
  rw [laws_toTxnS_e]
  unfold laws_toTxnS_d
  exact (par_ite ((par_loop laws_toTxnS_bp0 Fuel (a0, (0 : Int), (List.replicate (a0.length : Int).toNat (Ty.zero tTxn)))).bind fun z1 => (par_ret _)) par_none)

def spec_Beside_d (a0 : dTxn) (a1 : dTxn) (k : Bool → Option Res) : Option Res :=
  bif (a0.1 == a1.1) then
    k false
  else
    bif (a0.2.1 == (3 : Int)) then
      bif (decide (a0.2.2.2.1 ≤ a1.2.2.1)) then
        k false
      else
        bif (a1.2.1 == (3 : Int)) then
          bif (decide (a1.2.2.2.1 ≤ a0.2.2.1)) then
            k false
          else
            k true
        else
          k true
    else
      bif (a1.2.1 == (3 : Int)) then
        bif (decide (a1.2.2.2.1 ≤ a0.2.2.1)) then
          k false
        else
          k true
      else
        k true

theorem spec_Beside_h : ∃ g : dTxn → dTxn → (Bool → Option Res) → Option Res, g = spec_Beside_d := ⟨_, rfl⟩
def spec_Beside_k : dTxn → dTxn → (Bool → Option Res) → Option Res := Classical.choose spec_Beside_h
theorem spec_Beside_e : spec_Beside_k = spec_Beside_d := Classical.choose_spec spec_Beside_h

theorem spec_Beside_p (a0 : dTxn) (a1 : dTxn) : Par (spec_Beside_k a0 a1) := by
  rw [spec_Beside_e]
  unfold spec_Beside_d
  exact (par_bif (par_ret _) (par_bif (par_bif (par_ret _) (par_bif (par_bif (par_ret _) (par_ret _)) (par_ret _))) (par_bif (par_bif (par_ret _) (par_ret _)) (par_ret _))))

def spec_InRange_d (a0 : dRange) (a1 : ByteArray) (k : Bool → Option Res) : Option Res :=
  bif (!(strLess a1 a0.1)) then
    k ((strLess a1 a0.2) || (strEq a1 a0.2))
  else
    k false

theorem spec_InRange_h : ∃ g : dRange → ByteArray → (Bool → Option Res) → Option Res, g = spec_InRange_d := ⟨_, rfl⟩
def spec_InRange_k : dRange → ByteArray → (Bool → Option Res) → Option Res := Classical.choose spec_InRange_h
theorem spec_InRange_e : spec_InRange_k = spec_InRange_d := Classical.choose_spec spec_InRange_h

theorem spec_InRange_p (a0 : dRange) (a1 : ByteArray) : Par (spec_InRange_k a0 a1) := by
  rw [spec_InRange_e]
  unfold spec_InRange_d
  exact (par_bif (par_ret _) (par_ret _))

def spec_Touches_b2 (x : ((List dRange) × (List dWrite) × Bool × Int × Int)) (k : ((List dRange) × (List dWrite) × Bool × Int × Int) ⊕ (((List dRange) × (List dWrite) × Bool × Int × Int) ⊕ ((List dRange) × (List dWrite) × Bool × Int × Int)) → Option Res) : Option Res :=
    bif (decide (x.2.2.2.2 < (x.2.1.length : Int))) then
      if 0 ≤ x.2.2.2.1 ∧ x.2.2.2.1 < (x.1.length : Int) then
        if 0 ≤ x.2.2.2.2 ∧ x.2.2.2.2 < (x.2.1.length : Int) then
          spec_InRange_k (rd (Ty.zero tRange) x.1 x.2.2.2.1) ((rd (Ty.zero tWrite) x.2.1 x.2.2.2.2).1) (fun y5 =>
            bif y5 then
              k (.inr (.inl (x.1, x.2.1, true, x.2.2.2.1, x.2.2.2.2)))
            else
              k (.inl (x.1, x.2.1, x.2.2.1, x.2.2.2.1, (IntKind.wrap .i64 (x.2.2.2.2 + (1 : Int))))))
        else none
      else none
    else
      k (.inr (.inr (x.1, x.2.1, x.2.2.1, x.2.2.2.1, x.2.2.2.2)))

theorem spec_Touches_bp2 (x : ((List dRange) × (List dWrite) × Bool × Int × Int)) : Par (spec_Touches_b2 x) := by
  unfold spec_Touches_b2
  exact (par_bif (par_ite (par_ite ((spec_InRange_p (rd (Ty.zero tRange) x.1 x.2.2.2.1) ((rd (Ty.zero tWrite) x.2.1 x.2.2.2.2).1)).bind fun y5 => (par_bif (par_ret _) (par_ret _))) par_none) par_none) (par_ret _))

def spec_Touches_b0 (x : ((List dRange) × (List dWrite) × Bool × Int)) (k : ((List dRange) × (List dWrite) × Bool × Int) ⊕ (((List dRange) × (List dWrite) × Bool × Int) ⊕ ((List dRange) × (List dWrite) × Bool × Int)) → Option Res) : Option Res :=
    bif (decide (x.2.2.2 < (x.1.length : Int))) then
      loopK spec_Touches_b2 Fuel (x.1, x.2.1, x.2.2.1, x.2.2.2, (0 : Int)) (Sum.elim (fun z3 =>
        k (.inr (.inr (z3.1, z3.2.1, z3.2.2.1, z3.2.2.2.1)))) (fun z4 =>
        k (.inl (z4.1, z4.2.1, z4.2.2.1, (IntKind.wrap .i64 (z4.2.2.2.1 + (1 : Int)))))))
    else
      k (.inr (.inl (x.1, x.2.1, x.2.2.1, x.2.2.2)))

theorem spec_Touches_bp0 (x : ((List dRange) × (List dWrite) × Bool × Int)) : Par (spec_Touches_b0 x) := by
  unfold spec_Touches_b0
  exact (par_bif ((par_loop spec_Touches_bp2 Fuel (x.1, x.2.1, x.2.2.1, x.2.2.2, (0 : Int))).bind2 (fun z3 => (par_ret _)) (fun z4 => (par_ret _))) (par_ret _))

def spec_Touches_d (a0 : (List dRange)) (a1 : (List dWrite)) (k : Bool → Option Res) : Option Res :=
  loopK spec_Touches_b0 Fuel (a0, a1, false, (0 : Int)) (Sum.elim (fun _ =>
    k false) (fun z2 =>
    k z2.2.2.1))

theorem spec_Touches_h : ∃ g : (List dRange) → (List dWrite) → (Bool → Option Res) → Option Res, g = spec_Touches_d := ⟨_, rfl⟩
def spec_Touches_k : (List dRange) → (List dWrite) → (Bool → Option Res) → Option Res := Classical.choose spec_Touches_h
theorem spec_Touches_e : spec_Touches_k = spec_Touches_d := Classical.choose_spec spec_Touches_h

theorem spec_Touches_p (a0 : (List dRange)) (a1 : (List dWrite)) : Par (spec_Touches_k a0 a1) := by
  rw [spec_Touches_e]
  unfold spec_Touches_d
  exact ((par_loop spec_Touches_bp0 Fuel (a0, a1, false, (0 : Int))).bind2 (fun z1 => (par_ret _)) (fun z2 => (par_ret _)))

def spec_Ahead_d (a0 : dTxn) (a1 : dTxn) (k : Bool → Option Res) : Option Res :=
  spec_Beside_k a0 a1 (fun y1 =>
    bif y1 then
      spec_Touches_k a0.2.2.2.2.1 a1.2.2.2.2.2.1 (fun y2 =>
        k y2)
    else
      k false)

theorem spec_Ahead_h : ∃ g : dTxn → dTxn → (Bool → Option Res) → Option Res, g = spec_Ahead_d := ⟨_, rfl⟩
def spec_Ahead_k : dTxn → dTxn → (Bool → Option Res) → Option Res := Classical.choose spec_Ahead_h
theorem spec_Ahead_e : spec_Ahead_k = spec_Ahead_d := Classical.choose_spec spec_Ahead_h

theorem spec_Ahead_p (a0 : dTxn) (a1 : dTxn) : Par (spec_Ahead_k a0 a1) := by
  rw [spec_Ahead_e]
  unfold spec_Ahead_d
  exact ((spec_Beside_p a0 a1).bind fun y1 => (par_bif ((spec_Touches_p a0.2.2.2.2.1 a1.2.2.2.2.2.1).bind fun y2 => (par_ret _)) (par_ret _)))

def spec_InOf_b0 (x : ((List dTxn) × Bool × Int × Int × Int × Int × Int × (List dRange) × (List dWrite) × Bool × ByteArray)) (k : ((List dTxn) × Bool × Int × Int × Int × Int × Int × (List dRange) × (List dWrite) × Bool × ByteArray) ⊕ (((List dTxn) × Bool × Int × Int × Int × Int × Int × (List dRange) × (List dWrite) × Bool × ByteArray) ⊕ ((List dTxn) × Bool × Int × Int × Int × Int × Int × (List dRange) × (List dWrite) × Bool × ByteArray)) → Option Res) : Option Res :=
    bif (decide (x.2.2.1 < (x.1.length : Int))) then
      if 0 ≤ x.2.2.1 ∧ x.2.2.1 < (x.1.length : Int) then
        bif ((rd (Ty.zero tTxn) x.1 x.2.2.1).2.1 == (2 : Int)) then
          if 0 ≤ x.2.2.1 ∧ x.2.2.1 < (x.1.length : Int) then
            spec_Ahead_k (rd (Ty.zero tTxn) x.1 x.2.2.1) x.2.2.2 (fun y3 =>
              bif y3 then
                k (.inr (.inl (x.1, true, x.2.2.1, x.2.2.2.1, x.2.2.2.2.1, x.2.2.2.2.2.1, x.2.2.2.2.2.2.1, x.2.2.2.2.2.2.2.1, x.2.2.2.2.2.2.2.2.1, x.2.2.2.2.2.2.2.2.2.1, x.2.2.2.2.2.2.2.2.2.2)))
              else
                k (.inl (x.1, x.2.1, (IntKind.wrap .i64 (x.2.2.1 + (1 : Int))), x.2.2.2.1, x.2.2.2.2.1, x.2.2.2.2.2.1, x.2.2.2.2.2.2.1, x.2.2.2.2.2.2.2.1, x.2.2.2.2.2.2.2.2.1, x.2.2.2.2.2.2.2.2.2.1, x.2.2.2.2.2.2.2.2.2.2)))
          else none
        else
          if 0 ≤ x.2.2.1 ∧ x.2.2.1 < (x.1.length : Int) then
            bif ((rd (Ty.zero tTxn) x.1 x.2.2.1).2.1 == (3 : Int)) then
              if 0 ≤ x.2.2.1 ∧ x.2.2.1 < (x.1.length : Int) then
                spec_Ahead_k (rd (Ty.zero tTxn) x.1 x.2.2.1) x.2.2.2 (fun y4 =>
                  bif y4 then
                    k (.inr (.inl (x.1, true, x.2.2.1, x.2.2.2.1, x.2.2.2.2.1, x.2.2.2.2.2.1, x.2.2.2.2.2.2.1, x.2.2.2.2.2.2.2.1, x.2.2.2.2.2.2.2.2.1, x.2.2.2.2.2.2.2.2.2.1, x.2.2.2.2.2.2.2.2.2.2)))
                  else
                    k (.inl (x.1, x.2.1, (IntKind.wrap .i64 (x.2.2.1 + (1 : Int))), x.2.2.2.1, x.2.2.2.2.1, x.2.2.2.2.2.1, x.2.2.2.2.2.2.1, x.2.2.2.2.2.2.2.1, x.2.2.2.2.2.2.2.2.1, x.2.2.2.2.2.2.2.2.2.1, x.2.2.2.2.2.2.2.2.2.2)))
              else none
            else
              k (.inl (x.1, x.2.1, (IntKind.wrap .i64 (x.2.2.1 + (1 : Int))), x.2.2.2.1, x.2.2.2.2.1, x.2.2.2.2.2.1, x.2.2.2.2.2.2.1, x.2.2.2.2.2.2.2.1, x.2.2.2.2.2.2.2.2.1, x.2.2.2.2.2.2.2.2.2.1, x.2.2.2.2.2.2.2.2.2.2))
          else none
      else none
    else
      k (.inr (.inr (x.1, x.2.1, x.2.2.1, x.2.2.2.1, x.2.2.2.2.1, x.2.2.2.2.2.1, x.2.2.2.2.2.2.1, x.2.2.2.2.2.2.2.1, x.2.2.2.2.2.2.2.2.1, x.2.2.2.2.2.2.2.2.2.1, x.2.2.2.2.2.2.2.2.2.2)))

theorem spec_InOf_bp0 (x : ((List dTxn) × Bool × Int × Int × Int × Int × Int × (List dRange) × (List dWrite) × Bool × ByteArray)) : Par (spec_InOf_b0 x) := by
  unfold spec_InOf_b0
  exact (par_bif (par_ite (par_bif (par_ite ((spec_Ahead_p (rd (Ty.zero tTxn) x.1 x.2.2.1) x.2.2.2).bind fun y3 => (par_bif (par_ret _) (par_ret _))) par_none) (par_ite (par_bif (par_ite ((spec_Ahead_p (rd (Ty.zero tTxn) x.1 x.2.2.1) x.2.2.2).bind fun y4 => (par_bif (par_ret _) (par_ret _))) par_none) (par_ret _)) par_none)) par_none) (par_ret _))

def spec_InOf_d (a0 : dTxn) (a1 : (List dTxn)) (k : Bool → Option Res) : Option Res :=
  loopK spec_InOf_b0 Fuel (a1, false, (0 : Int), a0.1, a0.2.1, a0.2.2.1, a0.2.2.2.1, a0.2.2.2.2.1, a0.2.2.2.2.2.1, a0.2.2.2.2.2.2.1, a0.2.2.2.2.2.2.2) (Sum.elim (fun z1 =>
    k z1.2.1) (fun _ =>
    k false))

theorem spec_InOf_h : ∃ g : dTxn → (List dTxn) → (Bool → Option Res) → Option Res, g = spec_InOf_d := ⟨_, rfl⟩
def spec_InOf_k : dTxn → (List dTxn) → (Bool → Option Res) → Option Res := Classical.choose spec_InOf_h
theorem spec_InOf_e : spec_InOf_k = spec_InOf_d := Classical.choose_spec spec_InOf_h

theorem spec_InOf_p (a0 : dTxn) (a1 : (List dTxn)) : Par (spec_InOf_k a0 a1) := by
  rw [spec_InOf_e]
  unfold spec_InOf_d
  exact ((par_loop spec_InOf_bp0 Fuel (a1, false, (0 : Int), a0.1, a0.2.1, a0.2.2.1, a0.2.2.2.1, a0.2.2.2.2.1, a0.2.2.2.2.2.1, a0.2.2.2.2.2.2.1, a0.2.2.2.2.2.2.2)).bind2 (fun z1 => (par_ret _)) (fun z2 => (par_ret _)))

def impl_isReady_d (a0 : dTxn) (k : Bool → Option Res) : Option Res :=
  k (a0.2.1 == (2 : Int))

theorem impl_isReady_h : ∃ g : dTxn → (Bool → Option Res) → Option Res, g = impl_isReady_d := ⟨_, rfl⟩
def impl_isReady_k : dTxn → (Bool → Option Res) → Option Res := Classical.choose impl_isReady_h
theorem impl_isReady_e : impl_isReady_k = impl_isReady_d := Classical.choose_spec impl_isReady_h

theorem impl_isReady_p (a0 : dTxn) : Par (impl_isReady_k a0) := by
  rw [impl_isReady_e]
  unfold impl_isReady_d
  exact (par_ret _)

def impl_Beside_1_d (a0 : dTxn) (a1 : dTxn) (k : Bool → Option Res) : Option Res :=
  bif (a0.2.1 == (3 : Int)) then
    k (decide (a0.2.2.2.1 ≤ a1.2.2.1))
  else
    k false

theorem impl_Beside_1_h : ∃ g : dTxn → dTxn → (Bool → Option Res) → Option Res, g = impl_Beside_1_d := ⟨_, rfl⟩
def impl_Beside_1_k : dTxn → dTxn → (Bool → Option Res) → Option Res := Classical.choose impl_Beside_1_h
theorem impl_Beside_1_e : impl_Beside_1_k = impl_Beside_1_d := Classical.choose_spec impl_Beside_1_h

theorem impl_Beside_1_p (a0 : dTxn) (a1 : dTxn) : Par (impl_Beside_1_k a0 a1) := by
  rw [impl_Beside_1_e]
  unfold impl_Beside_1_d
  exact (par_bif (par_ret _) (par_ret _))

def impl_Beside_d (a0 : dTxn) (a1 : dTxn) (k : Bool → Option Res) : Option Res :=
  bif (a0.1 != a1.1) then
    impl_Beside_1_k a0 a1 (fun y1 =>
      bif (!y1) then
        impl_Beside_1_k a1 a0 (fun y2 =>
          k (!y2))
      else
        k false)
  else
    k false

theorem impl_Beside_h : ∃ g : dTxn → dTxn → (Bool → Option Res) → Option Res, g = impl_Beside_d := ⟨_, rfl⟩
def impl_Beside_k : dTxn → dTxn → (Bool → Option Res) → Option Res := Classical.choose impl_Beside_h
theorem impl_Beside_e : impl_Beside_k = impl_Beside_d := Classical.choose_spec impl_Beside_h

theorem impl_Beside_p (a0 : dTxn) (a1 : dTxn) : Par (impl_Beside_k a0 a1) := by
  rw [impl_Beside_e]
  unfold impl_Beside_d
  exact (par_bif ((impl_Beside_1_p a0 a1).bind fun y1 => (par_bif ((impl_Beside_1_p a1 a0).bind fun y2 => (par_ret _)) (par_ret _))) (par_ret _))

def impl_InRange_d (a0 : dRange) (a1 : ByteArray) (k : Bool → Option Res) : Option Res :=
  bif (!(strLess a1 a0.1)) then
    k ((strLess a1 a0.2) || (strEq a1 a0.2))
  else
    k false

theorem impl_InRange_h : ∃ g : dRange → ByteArray → (Bool → Option Res) → Option Res, g = impl_InRange_d := ⟨_, rfl⟩
def impl_InRange_k : dRange → ByteArray → (Bool → Option Res) → Option Res := Classical.choose impl_InRange_h
theorem impl_InRange_e : impl_InRange_k = impl_InRange_d := Classical.choose_spec impl_InRange_h

theorem impl_InRange_p (a0 : dRange) (a1 : ByteArray) : Par (impl_InRange_k a0 a1) := by
  rw [impl_InRange_e]
  unfold impl_InRange_d
  exact (par_bif (par_ret _) (par_ret _))

def impl_Touches_b2 (x : ((List dWrite) × Bool × (List dRange) × Int × Int × (List dWrite) × Int × Int × ByteArray × ByteArray)) (k : ((List dWrite) × Bool × (List dRange) × Int × Int × (List dWrite) × Int × Int × ByteArray × ByteArray) ⊕ (((List dWrite) × Bool × (List dRange) × Int × Int × (List dWrite) × Int × Int × ByteArray × ByteArray) ⊕ ((List dWrite) × Bool × (List dRange) × Int × Int × (List dWrite) × Int × Int × ByteArray × ByteArray)) → Option Res) : Option Res :=
    bif (decide (x.2.2.2.2.2.2.2.1 < x.2.2.2.2.2.2.1)) then
      if 0 ≤ x.2.2.2.2.2.2.2.1 ∧ x.2.2.2.2.2.2.2.1 < (x.2.2.2.2.2.1.length : Int) then
        impl_InRange_k x.2.2.2.2.2.2.2.2 ((rd (Ty.zero tWrite) x.2.2.2.2.2.1 x.2.2.2.2.2.2.2.1).1) (fun y5 =>
          bif y5 then
            k (.inr (.inl (x.1, true, x.2.2.1, x.2.2.2.1, x.2.2.2.2.1, x.2.2.2.2.2.1, x.2.2.2.2.2.2.1, x.2.2.2.2.2.2.2.1, x.2.2.2.2.2.2.2.2.1, x.2.2.2.2.2.2.2.2.2)))
          else
            k (.inl (x.1, x.2.1, x.2.2.1, x.2.2.2.1, x.2.2.2.2.1, x.2.2.2.2.2.1, x.2.2.2.2.2.2.1, (IntKind.wrap .i64 (x.2.2.2.2.2.2.2.1 + (1 : Int))), x.2.2.2.2.2.2.2.2.1, x.2.2.2.2.2.2.2.2.2)))
      else none
    else
      k (.inr (.inr (x.1, x.2.1, x.2.2.1, x.2.2.2.1, x.2.2.2.2.1, x.2.2.2.2.2.1, x.2.2.2.2.2.2.1, x.2.2.2.2.2.2.2.1, x.2.2.2.2.2.2.2.2.1, x.2.2.2.2.2.2.2.2.2)))

theorem impl_Touches_bp2 (x : ((List dWrite) × Bool × (List dRange) × Int × Int × (List dWrite) × Int × Int × ByteArray × ByteArray)) : Par (impl_Touches_b2 x) := by
  unfold impl_Touches_b2
  exact (par_bif (par_ite ((impl_InRange_p x.2.2.2.2.2.2.2.2 ((rd (Ty.zero tWrite) x.2.2.2.2.2.1 x.2.2.2.2.2.2.2.1).1)).bind fun y5 => (par_bif (par_ret _) (par_ret _))) par_none) (par_ret _))

def impl_Touches_b0 (x : ((List dWrite) × Bool × (List dRange) × Int × Int)) (k : ((List dWrite) × Bool × (List dRange) × Int × Int) ⊕ (((List dWrite) × Bool × (List dRange) × Int × Int) ⊕ ((List dWrite) × Bool × (List dRange) × Int × Int)) → Option Res) : Option Res :=
    bif (decide (x.2.2.2.2 < x.2.2.2.1)) then
      if 0 ≤ x.2.2.2.2 ∧ x.2.2.2.2 < (x.2.2.1.length : Int) then
        loopK impl_Touches_b2 Fuel (x.1, x.2.1, x.2.2.1, x.2.2.2.1, x.2.2.2.2, x.1, (x.1.length : Int), (0 : Int), (rd (Ty.zero tRange) x.2.2.1 x.2.2.2.2).1, (rd (Ty.zero tRange) x.2.2.1 x.2.2.2.2).2) (Sum.elim (fun z3 =>
          k (.inr (.inr (z3.1, z3.2.1, z3.2.2.1, z3.2.2.2.1, z3.2.2.2.2.1)))) (fun z4 =>
          k (.inl (z4.1, z4.2.1, z4.2.2.1, z4.2.2.2.1, (IntKind.wrap .i64 (z4.2.2.2.2.1 + (1 : Int)))))))
      else none
    else
      k (.inr (.inl (x.1, x.2.1, x.2.2.1, x.2.2.2.1, x.2.2.2.2)))

theorem impl_Touches_bp0 (x : ((List dWrite) × Bool × (List dRange) × Int × Int)) : Par (impl_Touches_b0 x) := by
  unfold impl_Touches_b0
  exact (par_bif (par_ite ((par_loop impl_Touches_bp2 Fuel (x.1, x.2.1, x.2.2.1, x.2.2.2.1, x.2.2.2.2, x.1, (x.1.length : Int), (0 : Int), (rd (Ty.zero tRange) x.2.2.1 x.2.2.2.2).1, (rd (Ty.zero tRange) x.2.2.1 x.2.2.2.2).2)).bind2 (fun z3 => (par_ret _)) (fun z4 => (par_ret _))) par_none) (par_ret _))

def impl_Touches_d (a0 : (List dRange)) (a1 : (List dWrite)) (k : Bool → Option Res) : Option Res :=
  loopK impl_Touches_b0 Fuel (a1, false, a0, (a0.length : Int), (0 : Int)) (Sum.elim (fun _ =>
    k false) (fun z2 =>
    k z2.2.1))

theorem impl_Touches_h : ∃ g : (List dRange) → (List dWrite) → (Bool → Option Res) → Option Res, g = impl_Touches_d := ⟨_, rfl⟩
def impl_Touches_k : (List dRange) → (List dWrite) → (Bool → Option Res) → Option Res := Classical.choose impl_Touches_h
theorem impl_Touches_e : impl_Touches_k = impl_Touches_d := Classical.choose_spec impl_Touches_h

theorem impl_Touches_p (a0 : (List dRange)) (a1 : (List dWrite)) : Par (impl_Touches_k a0 a1) := by
  rw [impl_Touches_e]
  unfold impl_Touches_d
  exact ((par_loop impl_Touches_bp0 Fuel (a1, false, a0, (a0.length : Int), (0 : Int))).bind2 (fun z1 => (par_ret _)) (fun z2 => (par_ret _)))

def impl_Ahead_d (a0 : dTxn) (a1 : dTxn) (k : Bool → Option Res) : Option Res :=
  impl_Beside_k a0 a1 (fun y1 =>
    bif y1 then
      impl_Touches_k a0.2.2.2.2.1 a1.2.2.2.2.2.1 (fun y2 =>
        k y2)
    else
      k false)

theorem impl_Ahead_h : ∃ g : dTxn → dTxn → (Bool → Option Res) → Option Res, g = impl_Ahead_d := ⟨_, rfl⟩
def impl_Ahead_k : dTxn → dTxn → (Bool → Option Res) → Option Res := Classical.choose impl_Ahead_h
theorem impl_Ahead_e : impl_Ahead_k = impl_Ahead_d := Classical.choose_spec impl_Ahead_h

theorem impl_Ahead_p (a0 : dTxn) (a1 : dTxn) : Par (impl_Ahead_k a0 a1) := by
  rw [impl_Ahead_e]
  unfold impl_Ahead_d
  exact ((impl_Beside_p a0 a1).bind fun y1 => (par_bif ((impl_Touches_p a0.2.2.2.2.1 a1.2.2.2.2.2.1).bind fun y2 => (par_ret _)) (par_ret _)))

def impl_isDone_d (a0 : dTxn) (k : Bool → Option Res) : Option Res :=
  k (a0.2.1 == (3 : Int))

theorem impl_isDone_h : ∃ g : dTxn → (Bool → Option Res) → Option Res, g = impl_isDone_d := ⟨_, rfl⟩
def impl_isDone_k : dTxn → (Bool → Option Res) → Option Res := Classical.choose impl_isDone_h
theorem impl_isDone_e : impl_isDone_k = impl_isDone_d := Classical.choose_spec impl_isDone_h

theorem impl_isDone_p (a0 : dTxn) : Par (impl_isDone_k a0) := by
  rw [impl_isDone_e]
  unfold impl_isDone_d
  exact (par_ret _)

def impl_InOf_1_d (a0 : dTxn) (a1 : Int) (a2 : Int) (a3 : Int) (a4 : Int) (a5 : (List dRange)) (a6 : (List dWrite)) (a7 : Bool) (a8 : ByteArray) (k : (Bool × Int × Int × Int × Int × (List dRange) × (List dWrite) × Bool × ByteArray) → Option Res) : Option Res :=
  impl_isReady_k a0 (fun y1 =>
    bif y1 then
      impl_Ahead_k a0 (a1, (a2, (a3, (a4, (a5, (a6, (a7, a8))))))) (fun y2 =>
        k (y2, a1, a2, a3, a4, a5, a6, a7, a8))
    else
      impl_isDone_k a0 (fun y3 =>
        bif y3 then
          impl_Ahead_k a0 (a1, (a2, (a3, (a4, (a5, (a6, (a7, a8))))))) (fun y4 =>
            k (y4, a1, a2, a3, a4, a5, a6, a7, a8))
        else
          k (false, a1, a2, a3, a4, a5, a6, a7, a8)))

theorem impl_InOf_1_h : ∃ g : dTxn → Int → Int → Int → Int → (List dRange) → (List dWrite) → Bool → ByteArray → ((Bool × Int × Int × Int × Int × (List dRange) × (List dWrite) × Bool × ByteArray) → Option Res) → Option Res, g = impl_InOf_1_d := ⟨_, rfl⟩
def impl_InOf_1_k : dTxn → Int → Int → Int → Int → (List dRange) → (List dWrite) → Bool → ByteArray → ((Bool × Int × Int × Int × Int × (List dRange) × (List dWrite) × Bool × ByteArray) → Option Res) → Option Res := Classical.choose impl_InOf_1_h
theorem impl_InOf_1_e : impl_InOf_1_k = impl_InOf_1_d := Classical.choose_spec impl_InOf_1_h

theorem impl_InOf_1_p (a0 : dTxn) (a1 : Int) (a2 : Int) (a3 : Int) (a4 : Int) (a5 : (List dRange)) (a6 : (List dWrite)) (a7 : Bool) (a8 : ByteArray) : Par (impl_InOf_1_k a0 a1 a2 a3 a4 a5 a6 a7 a8) := by
  rw [impl_InOf_1_e]
  unfold impl_InOf_1_d
  exact ((impl_isReady_p a0).bind fun y1 => (par_bif ((impl_Ahead_p a0 (a1, (a2, (a3, (a4, (a5, (a6, (a7, a8)))))))).bind fun y2 => (par_ret _)) ((impl_isDone_p a0).bind fun y3 => (par_bif ((impl_Ahead_p a0 (a1, (a2, (a3, (a4, (a5, (a6, (a7, a8)))))))).bind fun y4 => (par_ret _)) (par_ret _)))))

def slices_IndexFunc_Txn_InOf_1_b0 (x : ((List dTxn) × Int × Int × Int × Int × Int × Int × Int × (List dRange) × (List dWrite) × Bool × ByteArray)) (k : ((List dTxn) × Int × Int × Int × Int × Int × Int × Int × (List dRange) × (List dWrite) × Bool × ByteArray) ⊕ (((List dTxn) × Int × Int × Int × Int × Int × Int × Int × (List dRange) × (List dWrite) × Bool × ByteArray) ⊕ ((List dTxn) × Int × Int × Int × Int × Int × Int × Int × (List dRange) × (List dWrite) × Bool × ByteArray)) → Option Res) : Option Res :=
    bif (decide (x.2.2.2.1 < x.2.2.1)) then
      if 0 ≤ x.2.2.2.1 ∧ x.2.2.2.1 < (x.1.length : Int) then
        impl_InOf_1_k (rd (Ty.zero tTxn) x.1 x.2.2.2.1) x.2.2.2.2.1 x.2.2.2.2.2.1 x.2.2.2.2.2.2.1 x.2.2.2.2.2.2.2.1 x.2.2.2.2.2.2.2.2.1 x.2.2.2.2.2.2.2.2.2.1 x.2.2.2.2.2.2.2.2.2.2.1 x.2.2.2.2.2.2.2.2.2.2.2 (fun y3 =>
          bif y3.1 then
            k (.inr (.inl (x.1, x.2.2.2.1, x.2.2.1, x.2.2.2.1, y3.2.1, y3.2.2.1, y3.2.2.2.1, y3.2.2.2.2.1, y3.2.2.2.2.2.1, y3.2.2.2.2.2.2.1, y3.2.2.2.2.2.2.2.1, y3.2.2.2.2.2.2.2.2)))
          else
            k (.inl (x.1, x.2.1, x.2.2.1, (IntKind.wrap .i64 (x.2.2.2.1 + (1 : Int))), y3.2.1, y3.2.2.1, y3.2.2.2.1, y3.2.2.2.2.1, y3.2.2.2.2.2.1, y3.2.2.2.2.2.2.1, y3.2.2.2.2.2.2.2.1, y3.2.2.2.2.2.2.2.2)))
      else none
    else
      k (.inr (.inr (x.1, x.2.1, x.2.2.1, x.2.2.2.1, x.2.2.2.2.1, x.2.2.2.2.2.1, x.2.2.2.2.2.2.1, x.2.2.2.2.2.2.2.1, x.2.2.2.2.2.2.2.2.1, x.2.2.2.2.2.2.2.2.2.1, x.2.2.2.2.2.2.2.2.2.2.1, x.2.2.2.2.2.2.2.2.2.2.2)))

theorem slices_IndexFunc_Txn_InOf_1_bp0 (x : ((List dTxn) × Int × Int × Int × Int × Int × Int × Int × (List dRange) × (List dWrite) × Bool × ByteArray)) : Par (slices_IndexFunc_Txn_InOf_1_b0 x) := by
  unfold slices_IndexFunc_Txn_InOf_1_b0
  exact (par_bif (par_ite ((impl_InOf_1_p (rd (Ty.zero tTxn) x.1 x.2.2.2.1) x.2.2.2.2.1 x.2.2.2.2.2.1 x.2.2.2.2.2.2.1 x.2.2.2.2.2.2.2.1 x.2.2.2.2.2.2.2.2.1 x.2.2.2.2.2.2.2.2.2.1 x.2.2.2.2.2.2.2.2.2.2.1 x.2.2.2.2.2.2.2.2.2.2.2).bind fun y3 => (par_bif (par_ret _) (par_ret _))) par_none) (par_ret _))

def slices_IndexFunc_Txn_InOf_1_d (a0 : (List dTxn)) (a1 : Int) (a2 : Int) (a3 : Int) (a4 : Int) (a5 : (List dRange)) (a6 : (List dWrite)) (a7 : Bool) (a8 : ByteArray) (k : (Int × Int × Int × Int × Int × (List dRange) × (List dWrite) × Bool × ByteArray) → Option Res) : Option Res :=
  loopK slices_IndexFunc_Txn_InOf_1_b0 Fuel (a0, (0 : Int), (a0.length : Int), (0 : Int), a1, a2, a3, a4, a5, a6, a7, a8) (Sum.elim (fun z1 =>
    k (z1.2.1, z1.2.2.2.2.1, z1.2.2.2.2.2.1, z1.2.2.2.2.2.2.1, z1.2.2.2.2.2.2.2.1, z1.2.2.2.2.2.2.2.2.1, z1.2.2.2.2.2.2.2.2.2.1, z1.2.2.2.2.2.2.2.2.2.2.1, z1.2.2.2.2.2.2.2.2.2.2.2)) (fun z2 =>
    k ((-1 : Int), z2.2.2.2.2.1, z2.2.2.2.2.2.1, z2.2.2.2.2.2.2.1, z2.2.2.2.2.2.2.2.1, z2.2.2.2.2.2.2.2.2.1, z2.2.2.2.2.2.2.2.2.2.1, z2.2.2.2.2.2.2.2.2.2.2.1, z2.2.2.2.2.2.2.2.2.2.2.2)))

theorem slices_IndexFunc_Txn_InOf_1_h : ∃ g : (List dTxn) → Int → Int → Int → Int → (List dRange) → (List dWrite) → Bool → ByteArray → ((Int × Int × Int × Int × Int × (List dRange) × (List dWrite) × Bool × ByteArray) → Option Res) → Option Res, g = slices_IndexFunc_Txn_InOf_1_d := ⟨_, rfl⟩
def slices_IndexFunc_Txn_InOf_1_k : (List dTxn) → Int → Int → Int → Int → (List dRange) → (List dWrite) → Bool → ByteArray → ((Int × Int × Int × Int × Int × (List dRange) × (List dWrite) × Bool × ByteArray) → Option Res) → Option Res := Classical.choose slices_IndexFunc_Txn_InOf_1_h
theorem slices_IndexFunc_Txn_InOf_1_e : slices_IndexFunc_Txn_InOf_1_k = slices_IndexFunc_Txn_InOf_1_d := Classical.choose_spec slices_IndexFunc_Txn_InOf_1_h

theorem slices_IndexFunc_Txn_InOf_1_p (a0 : (List dTxn)) (a1 : Int) (a2 : Int) (a3 : Int) (a4 : Int) (a5 : (List dRange)) (a6 : (List dWrite)) (a7 : Bool) (a8 : ByteArray) : Par (slices_IndexFunc_Txn_InOf_1_k a0 a1 a2 a3 a4 a5 a6 a7 a8) := by
  rw [slices_IndexFunc_Txn_InOf_1_e]
  unfold slices_IndexFunc_Txn_InOf_1_d
  exact ((par_loop slices_IndexFunc_Txn_InOf_1_bp0 Fuel (a0, (0 : Int), (a0.length : Int), (0 : Int), a1, a2, a3, a4, a5, a6, a7, a8)).bind2 (fun z1 => (par_ret _)) (fun z2 => (par_ret _)))

def slices_ContainsFunc_Txn_InOf_1_d (a0 : (List dTxn)) (a1 : Int) (a2 : Int) (a3 : Int) (a4 : Int) (a5 : (List dRange)) (a6 : (List dWrite)) (a7 : Bool) (a8 : ByteArray) (k : (Bool × Int × Int × Int × Int × (List dRange) × (List dWrite) × Bool × ByteArray) → Option Res) : Option Res :=
  slices_IndexFunc_Txn_InOf_1_k a0 a1 a2 a3 a4 a5 a6 a7 a8 (fun y1 =>
    k ((decide (y1.1 ≥ (0 : Int))), y1.2.1, y1.2.2.1, y1.2.2.2.1, y1.2.2.2.2.1, y1.2.2.2.2.2.1, y1.2.2.2.2.2.2.1, y1.2.2.2.2.2.2.2.1, y1.2.2.2.2.2.2.2.2))

theorem slices_ContainsFunc_Txn_InOf_1_h : ∃ g : (List dTxn) → Int → Int → Int → Int → (List dRange) → (List dWrite) → Bool → ByteArray → ((Bool × Int × Int × Int × Int × (List dRange) × (List dWrite) × Bool × ByteArray) → Option Res) → Option Res, g = slices_ContainsFunc_Txn_InOf_1_d := ⟨_, rfl⟩
def slices_ContainsFunc_Txn_InOf_1_k : (List dTxn) → Int → Int → Int → Int → (List dRange) → (List dWrite) → Bool → ByteArray → ((Bool × Int × Int × Int × Int × (List dRange) × (List dWrite) × Bool × ByteArray) → Option Res) → Option Res := Classical.choose slices_ContainsFunc_Txn_InOf_1_h
theorem slices_ContainsFunc_Txn_InOf_1_e : slices_ContainsFunc_Txn_InOf_1_k = slices_ContainsFunc_Txn_InOf_1_d := Classical.choose_spec slices_ContainsFunc_Txn_InOf_1_h

theorem slices_ContainsFunc_Txn_InOf_1_p (a0 : (List dTxn)) (a1 : Int) (a2 : Int) (a3 : Int) (a4 : Int) (a5 : (List dRange)) (a6 : (List dWrite)) (a7 : Bool) (a8 : ByteArray) : Par (slices_ContainsFunc_Txn_InOf_1_k a0 a1 a2 a3 a4 a5 a6 a7 a8) := by
  rw [slices_ContainsFunc_Txn_InOf_1_e]
  unfold slices_ContainsFunc_Txn_InOf_1_d
  exact ((slices_IndexFunc_Txn_InOf_1_p a0 a1 a2 a3 a4 a5 a6 a7 a8).bind fun y1 => (par_ret _))

def impl_some_InOf_1_d (a0 : (List dTxn)) (a1 : Int) (a2 : Int) (a3 : Int) (a4 : Int) (a5 : (List dRange)) (a6 : (List dWrite)) (a7 : Bool) (a8 : ByteArray) (k : (Bool × Int × Int × Int × Int × (List dRange) × (List dWrite) × Bool × ByteArray) → Option Res) : Option Res :=
  slices_ContainsFunc_Txn_InOf_1_k a0 a1 a2 a3 a4 a5 a6 a7 a8 (fun y1 =>
    k (y1.1, y1.2.1, y1.2.2.1, y1.2.2.2.1, y1.2.2.2.2.1, y1.2.2.2.2.2.1, y1.2.2.2.2.2.2.1, y1.2.2.2.2.2.2.2.1, y1.2.2.2.2.2.2.2.2))

theorem impl_some_InOf_1_h : ∃ g : (List dTxn) → Int → Int → Int → Int → (List dRange) → (List dWrite) → Bool → ByteArray → ((Bool × Int × Int × Int × Int × (List dRange) × (List dWrite) × Bool × ByteArray) → Option Res) → Option Res, g = impl_some_InOf_1_d := ⟨_, rfl⟩
def impl_some_InOf_1_k : (List dTxn) → Int → Int → Int → Int → (List dRange) → (List dWrite) → Bool → ByteArray → ((Bool × Int × Int × Int × Int × (List dRange) × (List dWrite) × Bool × ByteArray) → Option Res) → Option Res := Classical.choose impl_some_InOf_1_h
theorem impl_some_InOf_1_e : impl_some_InOf_1_k = impl_some_InOf_1_d := Classical.choose_spec impl_some_InOf_1_h

theorem impl_some_InOf_1_p (a0 : (List dTxn)) (a1 : Int) (a2 : Int) (a3 : Int) (a4 : Int) (a5 : (List dRange)) (a6 : (List dWrite)) (a7 : Bool) (a8 : ByteArray) : Par (impl_some_InOf_1_k a0 a1 a2 a3 a4 a5 a6 a7 a8) := by
  rw [impl_some_InOf_1_e]
  unfold impl_some_InOf_1_d
  exact ((slices_ContainsFunc_Txn_InOf_1_p a0 a1 a2 a3 a4 a5 a6 a7 a8).bind fun y1 => (par_ret _))

def impl_InOf_d (a0 : dTxn) (a1 : (List dTxn)) (k : Bool → Option Res) : Option Res :=
  impl_some_InOf_1_k a1 a0.1 a0.2.1 a0.2.2.1 a0.2.2.2.1 a0.2.2.2.2.1 a0.2.2.2.2.2.1 a0.2.2.2.2.2.2.1 a0.2.2.2.2.2.2.2 (fun y1 =>
    k y1.1)

theorem impl_InOf_h : ∃ g : dTxn → (List dTxn) → (Bool → Option Res) → Option Res, g = impl_InOf_d := ⟨_, rfl⟩
def impl_InOf_k : dTxn → (List dTxn) → (Bool → Option Res) → Option Res := Classical.choose impl_InOf_h
theorem impl_InOf_e : impl_InOf_k = impl_InOf_d := Classical.choose_spec impl_InOf_h

theorem impl_InOf_p (a0 : dTxn) (a1 : (List dTxn)) : Par (impl_InOf_k a0 a1) := by
  rw [impl_InOf_e]
  unfold impl_InOf_d
  exact ((impl_some_InOf_1_p a1 a0.1 a0.2.1 a0.2.2.1 a0.2.2.2.1 a0.2.2.2.2.1 a0.2.2.2.2.2.1 a0.2.2.2.2.2.2.1 a0.2.2.2.2.2.2.2).bind fun y1 => (par_ret _))

def laws_eqRange_d (a0 : dRange) (a1 : dRange) (k : Bool → Option Res) : Option Res :=
  bif (!(strEq a0.1 a1.1)) then
    k false
  else
    bif (!(strEq a0.2 a1.2)) then
      k false
    else
      k true

theorem laws_eqRange_h : ∃ g : dRange → dRange → (Bool → Option Res) → Option Res, g = laws_eqRange_d := ⟨_, rfl⟩
def laws_eqRange_k : dRange → dRange → (Bool → Option Res) → Option Res := Classical.choose laws_eqRange_h
theorem laws_eqRange_e : laws_eqRange_k = laws_eqRange_d := Classical.choose_spec laws_eqRange_h

theorem laws_eqRange_p (a0 : dRange) (a1 : dRange) : Par (laws_eqRange_k a0 a1) := by
  rw [laws_eqRange_e]
  unfold laws_eqRange_d
  exact (par_bif (par_ret _) (par_bif (par_ret _) (par_ret _)))

def laws_eqRangeS_b0 (x : ((List dRange) × (List dRange) × Bool × Int)) (k : ((List dRange) × (List dRange) × Bool × Int) ⊕ (((List dRange) × (List dRange) × Bool × Int) ⊕ ((List dRange) × (List dRange) × Bool × Int)) → Option Res) : Option Res :=
    bif (decide (x.2.2.2 < (x.1.length : Int))) then
      if 0 ≤ x.2.2.2 ∧ x.2.2.2 < (x.1.length : Int) then
        if 0 ≤ x.2.2.2 ∧ x.2.2.2 < (x.2.1.length : Int) then
          laws_eqRange_k (rd (Ty.zero tRange) x.1 x.2.2.2) (rd (Ty.zero tRange) x.2.1 x.2.2.2) (fun y3 =>
            bif (!y3) then
              k (.inr (.inl (x.1, x.2.1, false, x.2.2.2)))
            else
              k (.inl (x.1, x.2.1, x.2.2.1, (IntKind.wrap .i64 (x.2.2.2 + (1 : Int))))))
        else none
      else none
    else
      k (.inr (.inr (x.1, x.2.1, x.2.2.1, x.2.2.2)))

theorem laws_eqRangeS_bp0 (x : ((List dRange) × (List dRange) × Bool × Int)) : Par (laws_eqRangeS_b0 x) := by
  unfold laws_eqRangeS_b0
  exact (par_bif (par_ite (par_ite ((laws_eqRange_p (rd (Ty.zero tRange) x.1 x.2.2.2) (rd (Ty.zero tRange) x.2.1 x.2.2.2)).bind fun y3 => (par_bif (par_ret _) (par_ret _))) par_none) par_none) (par_ret _))

def laws_eqRangeS_d (a0 : (List dRange)) (a1 : (List dRange)) (k : Bool → Option Res) : Option Res :=
  bif ((a0.length : Int) != (a1.length : Int)) then
    k false
  else
    loopK laws_eqRangeS_b0 Fuel (a0, a1, false, (0 : Int)) (Sum.elim (fun z1 =>
      k z1.2.2.1) (fun _ =>
      k true))

theorem laws_eqRangeS_h : ∃ g : (List dRange) → (List dRange) → (Bool → Option Res) → Option Res, g = laws_eqRangeS_d := ⟨_, rfl⟩
def laws_eqRangeS_k : (List dRange) → (List dRange) → (Bool → Option Res) → Option Res := Classical.choose laws_eqRangeS_h
theorem laws_eqRangeS_e : laws_eqRangeS_k = laws_eqRangeS_d := Classical.choose_spec laws_eqRangeS_h

theorem laws_eqRangeS_p (a0 : (List dRange)) (a1 : (List dRange)) : Par (laws_eqRangeS_k a0 a1) := by
  rw [laws_eqRangeS_e]
  unfold laws_eqRangeS_d
  exact (par_bif (par_ret _) ((par_loop laws_eqRangeS_bp0 Fuel (a0, a1, false, (0 : Int))).bind2 (fun z1 => (par_ret _)) (fun z2 => (par_ret _))))

def laws_eqWrite_d (a0 : dWrite) (a1 : dWrite) (k : Bool → Option Res) : Option Res :=
  bif (!(strEq a0.1 a1.1)) then
    k false
  else
    bif (!(strEq a0.2.1 a1.2.1)) then
      k false
    else
      bif (!(a0.2.2 == a1.2.2)) then
        k false
      else
        k true

theorem laws_eqWrite_h : ∃ g : dWrite → dWrite → (Bool → Option Res) → Option Res, g = laws_eqWrite_d := ⟨_, rfl⟩
def laws_eqWrite_k : dWrite → dWrite → (Bool → Option Res) → Option Res := Classical.choose laws_eqWrite_h
theorem laws_eqWrite_e : laws_eqWrite_k = laws_eqWrite_d := Classical.choose_spec laws_eqWrite_h

theorem laws_eqWrite_p (a0 : dWrite) (a1 : dWrite) : Par (laws_eqWrite_k a0 a1) := by
  rw [laws_eqWrite_e]
  unfold laws_eqWrite_d
  exact (par_bif (par_ret _) (par_bif (par_ret _) (par_bif (par_ret _) (par_ret _))))

def laws_eqWriteS_b0 (x : ((List dWrite) × (List dWrite) × Bool × Int)) (k : ((List dWrite) × (List dWrite) × Bool × Int) ⊕ (((List dWrite) × (List dWrite) × Bool × Int) ⊕ ((List dWrite) × (List dWrite) × Bool × Int)) → Option Res) : Option Res :=
    bif (decide (x.2.2.2 < (x.1.length : Int))) then
      if 0 ≤ x.2.2.2 ∧ x.2.2.2 < (x.1.length : Int) then
        if 0 ≤ x.2.2.2 ∧ x.2.2.2 < (x.2.1.length : Int) then
          laws_eqWrite_k (rd (Ty.zero tWrite) x.1 x.2.2.2) (rd (Ty.zero tWrite) x.2.1 x.2.2.2) (fun y3 =>
            bif (!y3) then
              k (.inr (.inl (x.1, x.2.1, false, x.2.2.2)))
            else
              k (.inl (x.1, x.2.1, x.2.2.1, (IntKind.wrap .i64 (x.2.2.2 + (1 : Int))))))
        else none
      else none
    else
      k (.inr (.inr (x.1, x.2.1, x.2.2.1, x.2.2.2)))

theorem laws_eqWriteS_bp0 (x : ((List dWrite) × (List dWrite) × Bool × Int)) : Par (laws_eqWriteS_b0 x) := by
  unfold laws_eqWriteS_b0
  exact (par_bif (par_ite (par_ite ((laws_eqWrite_p (rd (Ty.zero tWrite) x.1 x.2.2.2) (rd (Ty.zero tWrite) x.2.1 x.2.2.2)).bind fun y3 => (par_bif (par_ret _) (par_ret _))) par_none) par_none) (par_ret _))

def laws_eqWriteS_d (a0 : (List dWrite)) (a1 : (List dWrite)) (k : Bool → Option Res) : Option Res :=
  bif ((a0.length : Int) != (a1.length : Int)) then
    k false
  else
    loopK laws_eqWriteS_b0 Fuel (a0, a1, false, (0 : Int)) (Sum.elim (fun z1 =>
      k z1.2.2.1) (fun _ =>
      k true))

theorem laws_eqWriteS_h : ∃ g : (List dWrite) → (List dWrite) → (Bool → Option Res) → Option Res, g = laws_eqWriteS_d := ⟨_, rfl⟩
def laws_eqWriteS_k : (List dWrite) → (List dWrite) → (Bool → Option Res) → Option Res := Classical.choose laws_eqWriteS_h
theorem laws_eqWriteS_e : laws_eqWriteS_k = laws_eqWriteS_d := Classical.choose_spec laws_eqWriteS_h

theorem laws_eqWriteS_p (a0 : (List dWrite)) (a1 : (List dWrite)) : Par (laws_eqWriteS_k a0 a1) := by
  rw [laws_eqWriteS_e]
  unfold laws_eqWriteS_d
  exact (par_bif (par_ret _) ((par_loop laws_eqWriteS_bp0 Fuel (a0, a1, false, (0 : Int))).bind2 (fun z1 => (par_ret _)) (fun z2 => (par_ret _))))

def laws_eqTxn_d (a0 : dTxn) (a1 : dTxn) (k : Bool → Option Res) : Option Res :=
  bif (a0.1 != a1.1) then
    k false
  else
    bif (a0.2.1 != a1.2.1) then
      k false
    else
      bif (a0.2.2.1 != a1.2.2.1) then
        k false
      else
        bif (a0.2.2.2.1 != a1.2.2.2.1) then
          k false
        else
          laws_eqRangeS_k a0.2.2.2.2.1 a1.2.2.2.2.1 (fun y1 =>
            bif (!y1) then
              k false
            else
              laws_eqWriteS_k a0.2.2.2.2.2.1 a1.2.2.2.2.2.1 (fun y2 =>
                bif (!y2) then
                  k false
                else
                  bif (!(a0.2.2.2.2.2.2.1 == a1.2.2.2.2.2.2.1)) then
                    k false
                  else
                    bif (!(strEq a0.2.2.2.2.2.2.2 a1.2.2.2.2.2.2.2)) then
                      k false
                    else
                      k true))

theorem laws_eqTxn_h : ∃ g : dTxn → dTxn → (Bool → Option Res) → Option Res, g = laws_eqTxn_d := ⟨_, rfl⟩
def laws_eqTxn_k : dTxn → dTxn → (Bool → Option Res) → Option Res := Classical.choose laws_eqTxn_h
theorem laws_eqTxn_e : laws_eqTxn_k = laws_eqTxn_d := Classical.choose_spec laws_eqTxn_h

theorem laws_eqTxn_p (a0 : dTxn) (a1 : dTxn) : Par (laws_eqTxn_k a0 a1) := by
  rw [laws_eqTxn_e]
  unfold laws_eqTxn_d
  exact (par_bif (par_ret _) (par_bif (par_ret _) (par_bif (par_ret _) (par_bif (par_ret _) ((laws_eqRangeS_p a0.2.2.2.2.1 a1.2.2.2.2.1).bind fun y1 => (par_bif (par_ret _) ((laws_eqWriteS_p a0.2.2.2.2.2.1 a1.2.2.2.2.2.1).bind fun y2 => (par_bif (par_ret _) (par_bif (par_ret _) (par_bif (par_ret _) (par_ret _)))))))))))

def laws_eqTxnS_b0 (x : ((List dTxn) × (List dTxn) × Bool × Int)) (k : ((List dTxn) × (List dTxn) × Bool × Int) ⊕ (((List dTxn) × (List dTxn) × Bool × Int) ⊕ ((List dTxn) × (List dTxn) × Bool × Int)) → Option Res) : Option Res :=
    bif (decide (x.2.2.2 < (x.1.length : Int))) then
      if 0 ≤ x.2.2.2 ∧ x.2.2.2 < (x.1.length : Int) then
        if 0 ≤ x.2.2.2 ∧ x.2.2.2 < (x.2.1.length : Int) then
          laws_eqTxn_k (rd (Ty.zero tTxn) x.1 x.2.2.2) (rd (Ty.zero tTxn) x.2.1 x.2.2.2) (fun y3 =>
            bif (!y3) then
              k (.inr (.inl (x.1, x.2.1, false, x.2.2.2)))
            else
              k (.inl (x.1, x.2.1, x.2.2.1, (IntKind.wrap .i64 (x.2.2.2 + (1 : Int))))))
        else none
      else none
    else
      k (.inr (.inr (x.1, x.2.1, x.2.2.1, x.2.2.2)))

theorem laws_eqTxnS_bp0 (x : ((List dTxn) × (List dTxn) × Bool × Int)) : Par (laws_eqTxnS_b0 x) := by
  unfold laws_eqTxnS_b0
  exact (par_bif (par_ite (par_ite ((laws_eqTxn_p (rd (Ty.zero tTxn) x.1 x.2.2.2) (rd (Ty.zero tTxn) x.2.1 x.2.2.2)).bind fun y3 => (par_bif (par_ret _) (par_ret _))) par_none) par_none) (par_ret _))

def laws_eqTxnS_d (a0 : (List dTxn)) (a1 : (List dTxn)) (k : Bool → Option Res) : Option Res :=
  bif ((a0.length : Int) != (a1.length : Int)) then
    k false
  else
    loopK laws_eqTxnS_b0 Fuel (a0, a1, false, (0 : Int)) (Sum.elim (fun z1 =>
      k z1.2.2.1) (fun _ =>
      k true))

theorem laws_eqTxnS_h : ∃ g : (List dTxn) → (List dTxn) → (Bool → Option Res) → Option Res, g = laws_eqTxnS_d := ⟨_, rfl⟩
def laws_eqTxnS_k : (List dTxn) → (List dTxn) → (Bool → Option Res) → Option Res := Classical.choose laws_eqTxnS_h
theorem laws_eqTxnS_e : laws_eqTxnS_k = laws_eqTxnS_d := Classical.choose_spec laws_eqTxnS_h

theorem laws_eqTxnS_p (a0 : (List dTxn)) (a1 : (List dTxn)) : Par (laws_eqTxnS_k a0 a1) := by
  rw [laws_eqTxnS_e]
  unfold laws_eqTxnS_d
  exact (par_bif (par_ret _) ((par_loop laws_eqTxnS_bp0 Fuel (a0, a1, false, (0 : Int))).bind2 (fun z1 => (par_ret _)) (fun z2 => (par_ret _))))

def laws_FnExactInOf_d (a0 : dTxn) (a1 : (List dTxn)) (k : Bool → Option Res) : Option Res :=
  laws_szTxn_k a0 (1048576 : Int) (fun y1 =>
    bif (decide (y1 < (0 : Int))) then
      k true
    else
      laws_szTxnS_k a1 y1 (fun y2 =>
        bif (decide (y2 < (0 : Int))) then
          k true
        else
          laws_toTxn_k a0 (fun y3 =>
            laws_toTxnS_k a1 (fun y4 =>
              spec_InOf_k (y3.1, (y3.2.1, (y3.2.2.1, (y3.2.2.2.1, (y3.2.2.2.2.2.2.1, (y3.2.2.2.2.2.2.2, (y3.2.2.2.2.1, y3.2.2.2.2.2.1))))))) y4 (fun y5 =>
                laws_toTxn_k a0 (fun y6 =>
                  laws_toTxnS_k a1 (fun y7 =>
                    impl_InOf_k (y6.1, (y6.2.1, (y6.2.2.1, (y6.2.2.2.1, (y6.2.2.2.2.2.2.1, (y6.2.2.2.2.2.2.2, (y6.2.2.2.2.1, y6.2.2.2.2.2.1))))))) y7 (fun y8 =>
                      bif (!(y8 == y5)) then
                        k false
                      else
                        laws_toTxn_k a0 (fun y9 =>
                          laws_eqTxn_k (y6.1, (y6.2.1, (y6.2.2.1, (y6.2.2.2.1, (y6.2.2.2.2.2.2.1, (y6.2.2.2.2.2.2.2, (y6.2.2.2.2.1, y6.2.2.2.2.2.1))))))) (y9.1, (y9.2.1, (y9.2.2.1, (y9.2.2.2.1, (y9.2.2.2.2.2.2.1, (y9.2.2.2.2.2.2.2, (y9.2.2.2.2.1, y9.2.2.2.2.2.1))))))) (fun y10 =>
                            bif (!y10) then
                              k false
                            else
                              laws_toTxnS_k a1 (fun y11 =>
                                laws_eqTxnS_k y7 y11 (fun y12 =>
                                  bif (!y12) then
                                    k false
                                  else
                                    k true))))))))))))

theorem laws_FnExactInOf_h : ∃ g : dTxn → (List dTxn) → (Bool → Option Res) → Option Res, g = laws_FnExactInOf_d := ⟨_, rfl⟩
def laws_FnExactInOf_k : dTxn → (List dTxn) → (Bool → Option Res) → Option Res := Classical.choose laws_FnExactInOf_h
theorem laws_FnExactInOf_e : laws_FnExactInOf_k = laws_FnExactInOf_d := Classical.choose_spec laws_FnExactInOf_h

theorem laws_FnExactInOf_p (a0 : dTxn) (a1 : (List dTxn)) : Par (laws_FnExactInOf_k a0 a1) := by
  rw [laws_FnExactInOf_e]
  unfold laws_FnExactInOf_d
  exact ((laws_szTxn_p a0 (1048576 : Int)).bind fun y1 => (par_bif (par_ret _) ((laws_szTxnS_p a1 y1).bind fun y2 => (par_bif (par_ret _) ((laws_toTxn_p a0).bind fun y3 => ((laws_toTxnS_p a1).bind fun y4 => ((spec_InOf_p (y3.1, (y3.2.1, (y3.2.2.1, (y3.2.2.2.1, (y3.2.2.2.2.2.2.1, (y3.2.2.2.2.2.2.2, (y3.2.2.2.2.1, y3.2.2.2.2.2.1))))))) y4).bind fun y5 => ((laws_toTxn_p a0).bind fun y6 => ((laws_toTxnS_p a1).bind fun y7 => ((impl_InOf_p (y6.1, (y6.2.1, (y6.2.2.1, (y6.2.2.2.1, (y6.2.2.2.2.2.2.1, (y6.2.2.2.2.2.2.2, (y6.2.2.2.2.1, y6.2.2.2.2.2.1))))))) y7).bind fun y8 => (par_bif (par_ret _) ((laws_toTxn_p a0).bind fun y9 => ((laws_eqTxn_p (y6.1, (y6.2.1, (y6.2.2.1, (y6.2.2.2.1, (y6.2.2.2.2.2.2.1, (y6.2.2.2.2.2.2.2, (y6.2.2.2.2.1, y6.2.2.2.2.2.1))))))) (y9.1, (y9.2.1, (y9.2.2.1, (y9.2.2.2.1, (y9.2.2.2.2.2.2.1, (y9.2.2.2.2.2.2.2, (y9.2.2.2.2.1, y9.2.2.2.2.2.1)))))))).bind fun y10 => (par_bif (par_ret _) ((laws_toTxnS_p a1).bind fun y11 => ((laws_eqTxnS_p y7 y11).bind fun y12 => (par_bif (par_ret _) (par_ret _))))))))))))))))))

def laws_szRange_g (args : List AV) (st : St) (k : K1) : Option Res :=
  onPats [.agg [.str, .str], .int .i64] [] args st (fun p q => laws_szRange_k (p.1.1, p.1.2.1) p.2.1 (fun (y : Int) => k (.int .i64 y) []))
    (none)

theorem laws_szRange_q (a0 : ByteArray) (a1 : ByteArray) (a2 : Int) : Par (fun k : AV × St → Option Res => laws_szRange_g [.agg [.str a0, .str a1], .int .i64 a2] [] (fun v s => k (v, s))) :=
  (laws_szRange_p (a0, a1) a2).bind (H := fun (y : Int) (k : AV × St → Option Res) => (fun (y : Int) => k ((.int .i64 y : AV), ([] : St))) y) (fun y => par_ret _)

def laws_szRangeS_g (args : List AV) (st : St) (k : K1) : Option Res :=
  onPats [.lst tRange, .int .i64] [] args st (fun p q => laws_szRangeS_k p.1 p.2.1 (fun (y : Int) => k (.int .i64 y) []))
    (none)

theorem laws_szRangeS_q (a0 : (List dRange)) (a1 : Int) : Par (fun k : AV × St → Option Res => laws_szRangeS_g [.lst tRange a0, .int .i64 a1] [] (fun v s => k (v, s))) :=
  (laws_szRangeS_p a0 a1).bind (H := fun (y : Int) (k : AV × St → Option Res) => (fun (y : Int) => k ((.int .i64 y : AV), ([] : St))) y) (fun y => par_ret _)

def laws_szWrite_g (args : List AV) (st : St) (k : K1) : Option Res :=
  onPats [.agg [.str, .str, .bool], .int .i64] [] args st (fun p q => laws_szWrite_k (p.1.1, (p.1.2.1, p.1.2.2.1)) p.2.1 (fun (y : Int) => k (.int .i64 y) []))
    (none)

theorem laws_szWrite_q (a0 : ByteArray) (a1 : ByteArray) (a2 : Bool) (a3 : Int) : Par (fun k : AV × St → Option Res => laws_szWrite_g [.agg [.str a0, .str a1, .bool a2], .int .i64 a3] [] (fun v s => k (v, s))) :=
  (laws_szWrite_p (a0, (a1, a2)) a3).bind (H := fun (y : Int) (k : AV × St → Option Res) => (fun (y : Int) => k ((.int .i64 y : AV), ([] : St))) y) (fun y => par_ret _)

def laws_szWriteS_g (args : List AV) (st : St) (k : K1) : Option Res :=
  onPats [.lst tWrite, .int .i64] [] args st (fun p q => laws_szWriteS_k p.1 p.2.1 (fun (y : Int) => k (.int .i64 y) []))
    (none)

theorem laws_szWriteS_q (a0 : (List dWrite)) (a1 : Int) : Par (fun k : AV × St → Option Res => laws_szWriteS_g [.lst tWrite a0, .int .i64 a1] [] (fun v s => k (v, s))) :=
  (laws_szWriteS_p a0 a1).bind (H := fun (y : Int) (k : AV × St → Option Res) => (fun (y : Int) => k ((.int .i64 y : AV), ([] : St))) y) (fun y => par_ret _)

def laws_szTxn_g (args : List AV) (st : St) (k : K1) : Option Res :=
  onPats [.agg [.int .i64, .int .i64, .int .i64, .int .i64, .lst tRange, .lst tWrite, .bool, .str], .int .i64] [] args st (fun p q => laws_szTxn_k (p.1.1, (p.1.2.1, (p.1.2.2.1, (p.1.2.2.2.1, (p.1.2.2.2.2.1, (p.1.2.2.2.2.2.1, (p.1.2.2.2.2.2.2.1, p.1.2.2.2.2.2.2.2.1))))))) p.2.1 (fun (y : Int) => k (.int .i64 y) []))
    (none)

theorem laws_szTxn_q (a0 : Int) (a1 : Int) (a2 : Int) (a3 : Int) (a4 : (List dRange)) (a5 : (List dWrite)) (a6 : Bool) (a7 : ByteArray) (a8 : Int) : Par (fun k : AV × St → Option Res => laws_szTxn_g [.agg [.int .i64 a0, .int .i64 a1, .int .i64 a2, .int .i64 a3, .lst tRange a4, .lst tWrite a5, .bool a6, .str a7], .int .i64 a8] [] (fun v s => k (v, s))) :=
  (laws_szTxn_p (a0, (a1, (a2, (a3, (a4, (a5, (a6, a7))))))) a8).bind (H := fun (y : Int) (k : AV × St → Option Res) => (fun (y : Int) => k ((.int .i64 y : AV), ([] : St))) y) (fun y => par_ret _)

def laws_szTxnS_g (args : List AV) (st : St) (k : K1) : Option Res :=
  onPats [.lst tTxn, .int .i64] [] args st (fun p q => laws_szTxnS_k p.1 p.2.1 (fun (y : Int) => k (.int .i64 y) []))
    (none)

theorem laws_szTxnS_q (a0 : (List dTxn)) (a1 : Int) : Par (fun k : AV × St → Option Res => laws_szTxnS_g [.lst tTxn a0, .int .i64 a1] [] (fun v s => k (v, s))) :=
  (laws_szTxnS_p a0 a1).bind (H := fun (y : Int) (k : AV × St → Option Res) => (fun (y : Int) => k ((.int .i64 y : AV), ([] : St))) y) (fun y => par_ret _)

def laws_toRange_g (args : List AV) (st : St) (k : K1) : Option Res :=
  onPats [.agg [.str, .str]] [] args st (fun p q => laws_toRange_k (p.1.1, p.1.2.1) (fun (y : (ByteArray × ByteArray)) => k (.agg [.str y.1, .str y.2]) []))
    (none)

theorem laws_toRange_q (a0 : ByteArray) (a1 : ByteArray) : Par (fun k : AV × St → Option Res => laws_toRange_g [.agg [.str a0, .str a1]] [] (fun v s => k (v, s))) :=
  (laws_toRange_p (a0, a1)).bind (H := fun (y : (ByteArray × ByteArray)) (k : AV × St → Option Res) => (fun (y : (ByteArray × ByteArray)) => k ((.agg [.str y.1, .str y.2] : AV), ([] : St))) y) (fun y => par_ret _)

def laws_toRangeS_g (args : List AV) (st : St) (k : K1) : Option Res :=
  onPats [.lst tRange] [] args st (fun p q => laws_toRangeS_k p.1 (fun (y : (List dRange)) => k (.own 0) [.arr tRange y]))
    (none)

theorem laws_toRangeS_q (a0 : (List dRange)) : Par (fun k : AV × St → Option Res => laws_toRangeS_g [.lst tRange a0] [] (fun v s => k (v, s))) :=
  (laws_toRangeS_p a0).bind (H := fun (y : (List dRange)) (k : AV × St → Option Res) => (fun (y : (List dRange)) => k ((.own 0 : AV), ([.arr tRange y] : St))) y) (fun y => par_ret _)

def laws_toWrite_g (args : List AV) (st : St) (k : K1) : Option Res :=
  onPats [.agg [.str, .str, .bool]] [] args st (fun p q => laws_toWrite_k (p.1.1, (p.1.2.1, p.1.2.2.1)) (fun (y : (ByteArray × ByteArray × Bool)) => k (.agg [.str y.1, .str y.2.1, .bool y.2.2]) []))
    (none)

theorem laws_toWrite_q (a0 : ByteArray) (a1 : ByteArray) (a2 : Bool) : Par (fun k : AV × St → Option Res => laws_toWrite_g [.agg [.str a0, .str a1, .bool a2]] [] (fun v s => k (v, s))) :=
  (laws_toWrite_p (a0, (a1, a2))).bind (H := fun (y : (ByteArray × ByteArray × Bool)) (k : AV × St → Option Res) => (fun (y : (ByteArray × ByteArray × Bool)) => k ((.agg [.str y.1, .str y.2.1, .bool y.2.2] : AV), ([] : St))) y) (fun y => par_ret _)

def laws_toWriteS_g (args : List AV) (st : St) (k : K1) : Option Res :=
  onPats [.lst tWrite] [] args st (fun p q => laws_toWriteS_k p.1 (fun (y : (List dWrite)) => k (.own 0) [.arr tWrite y]))
    (none)

theorem laws_toWriteS_q (a0 : (List dWrite)) : Par (fun k : AV × St → Option Res => laws_toWriteS_g [.lst tWrite a0] [] (fun v s => k (v, s))) :=
  (laws_toWriteS_p a0).bind (H := fun (y : (List dWrite)) (k : AV × St → Option Res) => (fun (y : (List dWrite)) => k ((.own 0 : AV), ([.arr tWrite y] : St))) y) (fun y => par_ret _)

def laws_toTxn_g (args : List AV) (st : St) (k : K1) : Option Res :=
  onPats [.agg [.int .i64, .int .i64, .int .i64, .int .i64, .lst tRange, .lst tWrite, .bool, .str]] [] args st (fun p q => laws_toTxn_k (p.1.1, (p.1.2.1, (p.1.2.2.1, (p.1.2.2.2.1, (p.1.2.2.2.2.1, (p.1.2.2.2.2.2.1, (p.1.2.2.2.2.2.2.1, p.1.2.2.2.2.2.2.2.1))))))) (fun (y : (Int × Int × Int × Int × Bool × ByteArray × (List dRange) × (List dWrite))) => k (.agg [.int .i64 y.1, .int .i64 y.2.1, .int .i64 y.2.2.1, .int .i64 y.2.2.2.1, .own 0, .own 1, .bool y.2.2.2.2.1, .str y.2.2.2.2.2.1]) [.arr tRange y.2.2.2.2.2.2.1, .arr tWrite y.2.2.2.2.2.2.2]))
    (none)

theorem laws_toTxn_q (a0 : Int) (a1 : Int) (a2 : Int) (a3 : Int) (a4 : (List dRange)) (a5 : (List dWrite)) (a6 : Bool) (a7 : ByteArray) : Par (fun k : AV × St → Option Res => laws_toTxn_g [.agg [.int .i64 a0, .int .i64 a1, .int .i64 a2, .int .i64 a3, .lst tRange a4, .lst tWrite a5, .bool a6, .str a7]] [] (fun v s => k (v, s))) :=
  (laws_toTxn_p (a0, (a1, (a2, (a3, (a4, (a5, (a6, a7)))))))).bind (H := fun (y : (Int × Int × Int × Int × Bool × ByteArray × (List dRange) × (List dWrite))) (k : AV × St → Option Res) => (fun (y : (Int × Int × Int × Int × Bool × ByteArray × (List dRange) × (List dWrite))) => k ((.agg [.int .i64 y.1, .int .i64 y.2.1, .int .i64 y.2.2.1, .int .i64 y.2.2.2.1, .own 0, .own 1, .bool y.2.2.2.2.1, .str y.2.2.2.2.2.1] : AV), ([.arr tRange y.2.2.2.2.2.2.1, .arr tWrite y.2.2.2.2.2.2.2] : St))) y) (fun y => par_ret _)

def laws_toTxnS_g (args : List AV) (st : St) (k : K1) : Option Res :=
  onPats [.lst tTxn] [] args st (fun p q => laws_toTxnS_k p.1 (fun (y : (List dTxn)) => k (.own 0) [.arr tTxn y]))
    (none)

theorem laws_toTxnS_q (a0 : (List dTxn)) : Par (fun k : AV × St → Option Res => laws_toTxnS_g [.lst tTxn a0] [] (fun v s => k (v, s))) :=
  (laws_toTxnS_p a0).bind (H := fun (y : (List dTxn)) (k : AV × St → Option Res) => (fun (y : (List dTxn)) => k ((.own 0 : AV), ([.arr tTxn y] : St))) y) (fun y => par_ret _)

def spec_Beside_g (args : List AV) (st : St) (k : K1) : Option Res :=
  onPats [.agg [.int .i64, .int .i64, .int .i64, .int .i64, .lst tRange, .lst tWrite, .bool, .str], .agg [.int .i64, .int .i64, .int .i64, .int .i64, .lst tRange, .lst tWrite, .bool, .str]] [] args st (fun p q => spec_Beside_k (p.1.1, (p.1.2.1, (p.1.2.2.1, (p.1.2.2.2.1, (p.1.2.2.2.2.1, (p.1.2.2.2.2.2.1, (p.1.2.2.2.2.2.2.1, p.1.2.2.2.2.2.2.2.1))))))) (p.2.1.1, (p.2.1.2.1, (p.2.1.2.2.1, (p.2.1.2.2.2.1, (p.2.1.2.2.2.2.1, (p.2.1.2.2.2.2.2.1, (p.2.1.2.2.2.2.2.2.1, p.2.1.2.2.2.2.2.2.2.1))))))) (fun (y : Bool) => k (.bool y) []))
    (none)

theorem spec_Beside_q (a0 : Int) (a1 : Int) (a2 : Int) (a3 : Int) (a4 : (List dRange)) (a5 : (List dWrite)) (a6 : Bool) (a7 : ByteArray) (a8 : Int) (a9 : Int) (a10 : Int) (a11 : Int) (a12 : (List dRange)) (a13 : (List dWrite)) (a14 : Bool) (a15 : ByteArray) : Par (fun k : AV × St → Option Res => spec_Beside_g [.agg [.int .i64 a0, .int .i64 a1, .int .i64 a2, .int .i64 a3, .lst tRange a4, .lst tWrite a5, .bool a6, .str a7], .agg [.int .i64 a8, .int .i64 a9, .int .i64 a10, .int .i64 a11, .lst tRange a12, .lst tWrite a13, .bool a14, .str a15]] [] (fun v s => k (v, s))) :=
  (spec_Beside_p (a0, (a1, (a2, (a3, (a4, (a5, (a6, a7))))))) (a8, (a9, (a10, (a11, (a12, (a13, (a14, a15)))))))).bind (H := fun (y : Bool) (k : AV × St → Option Res) => (fun (y : Bool) => k ((.bool y : AV), ([] : St))) y) (fun y => par_ret _)

def spec_InRange_g (args : List AV) (st : St) (k : K1) : Option Res :=
  onPats [.agg [.str, .str], .str] [] args st (fun p q => spec_InRange_k (p.1.1, p.1.2.1) p.2.1 (fun (y : Bool) => k (.bool y) []))
    (none)

theorem spec_InRange_q (a0 : ByteArray) (a1 : ByteArray) (a2 : ByteArray) : Par (fun k : AV × St → Option Res => spec_InRange_g [.agg [.str a0, .str a1], .str a2] [] (fun v s => k (v, s))) :=
  (spec_InRange_p (a0, a1) a2).bind (H := fun (y : Bool) (k : AV × St → Option Res) => (fun (y : Bool) => k ((.bool y : AV), ([] : St))) y) (fun y => par_ret _)

def spec_Touches_g (args : List AV) (st : St) (k : K1) : Option Res :=
  onPats [.lst tRange, .lst tWrite] [] args st (fun p q => spec_Touches_k p.1 p.2.1 (fun (y : Bool) => k (.bool y) []))
    (none)

theorem spec_Touches_q (a0 : (List dRange)) (a1 : (List dWrite)) : Par (fun k : AV × St → Option Res => spec_Touches_g [.lst tRange a0, .lst tWrite a1] [] (fun v s => k (v, s))) :=
  (spec_Touches_p a0 a1).bind (H := fun (y : Bool) (k : AV × St → Option Res) => (fun (y : Bool) => k ((.bool y : AV), ([] : St))) y) (fun y => par_ret _)

def spec_Ahead_g (args : List AV) (st : St) (k : K1) : Option Res :=
  onPats [.agg [.int .i64, .int .i64, .int .i64, .int .i64, .lst tRange, .lst tWrite, .bool, .str], .agg [.int .i64, .int .i64, .int .i64, .int .i64, .lst tRange, .lst tWrite, .bool, .str]] [] args st (fun p q => spec_Ahead_k (p.1.1, (p.1.2.1, (p.1.2.2.1, (p.1.2.2.2.1, (p.1.2.2.2.2.1, (p.1.2.2.2.2.2.1, (p.1.2.2.2.2.2.2.1, p.1.2.2.2.2.2.2.2.1))))))) (p.2.1.1, (p.2.1.2.1, (p.2.1.2.2.1, (p.2.1.2.2.2.1, (p.2.1.2.2.2.2.1, (p.2.1.2.2.2.2.2.1, (p.2.1.2.2.2.2.2.2.1, p.2.1.2.2.2.2.2.2.2.1))))))) (fun (y : Bool) => k (.bool y) []))
    (none)

theorem spec_Ahead_q (a0 : Int) (a1 : Int) (a2 : Int) (a3 : Int) (a4 : (List dRange)) (a5 : (List dWrite)) (a6 : Bool) (a7 : ByteArray) (a8 : Int) (a9 : Int) (a10 : Int) (a11 : Int) (a12 : (List dRange)) (a13 : (List dWrite)) (a14 : Bool) (a15 : ByteArray) : Par (fun k : AV × St → Option Res => spec_Ahead_g [.agg [.int .i64 a0, .int .i64 a1, .int .i64 a2, .int .i64 a3, .lst tRange a4, .lst tWrite a5, .bool a6, .str a7], .agg [.int .i64 a8, .int .i64 a9, .int .i64 a10, .int .i64 a11, .lst tRange a12, .lst tWrite a13, .bool a14, .str a15]] [] (fun v s => k (v, s))) :=
  (spec_Ahead_p (a0, (a1, (a2, (a3, (a4, (a5, (a6, a7))))))) (a8, (a9, (a10, (a11, (a12, (a13, (a14, a15)))))))).bind (H := fun (y : Bool) (k : AV × St → Option Res) => (fun (y : Bool) => k ((.bool y : AV), ([] : St))) y) (fun y => par_ret _)

def spec_InOf_g (args : List AV) (st : St) (k : K1) : Option Res :=
  onPats [.agg [.int .i64, .int .i64, .int .i64, .int .i64, .lst tRange, .lst tWrite, .bool, .str], .lst tTxn] [] args st (fun p q => spec_InOf_k (p.1.1, (p.1.2.1, (p.1.2.2.1, (p.1.2.2.2.1, (p.1.2.2.2.2.1, (p.1.2.2.2.2.2.1, (p.1.2.2.2.2.2.2.1, p.1.2.2.2.2.2.2.2.1))))))) p.2.1 (fun (y : Bool) => k (.bool y) []))
    (none)

theorem spec_InOf_q (a0 : Int) (a1 : Int) (a2 : Int) (a3 : Int) (a4 : (List dRange)) (a5 : (List dWrite)) (a6 : Bool) (a7 : ByteArray) (a8 : (List dTxn)) : Par (fun k : AV × St → Option Res => spec_InOf_g [.agg [.int .i64 a0, .int .i64 a1, .int .i64 a2, .int .i64 a3, .lst tRange a4, .lst tWrite a5, .bool a6, .str a7], .lst tTxn a8] [] (fun v s => k (v, s))) :=
  (spec_InOf_p (a0, (a1, (a2, (a3, (a4, (a5, (a6, a7))))))) a8).bind (H := fun (y : Bool) (k : AV × St → Option Res) => (fun (y : Bool) => k ((.bool y : AV), ([] : St))) y) (fun y => par_ret _)

def impl_isReady_g (args : List AV) (st : St) (k : K1) : Option Res :=
  onPats [.agg [.int .i64, .int .i64, .int .i64, .int .i64, .lst tRange, .lst tWrite, .bool, .str]] [] args st (fun p q => impl_isReady_k (p.1.1, (p.1.2.1, (p.1.2.2.1, (p.1.2.2.2.1, (p.1.2.2.2.2.1, (p.1.2.2.2.2.2.1, (p.1.2.2.2.2.2.2.1, p.1.2.2.2.2.2.2.2.1))))))) (fun (y : Bool) => k (.bool y) []))
    (none)

theorem impl_isReady_q (a0 : Int) (a1 : Int) (a2 : Int) (a3 : Int) (a4 : (List dRange)) (a5 : (List dWrite)) (a6 : Bool) (a7 : ByteArray) : Par (fun k : AV × St → Option Res => impl_isReady_g [.agg [.int .i64 a0, .int .i64 a1, .int .i64 a2, .int .i64 a3, .lst tRange a4, .lst tWrite a5, .bool a6, .str a7]] [] (fun v s => k (v, s))) :=
  (impl_isReady_p (a0, (a1, (a2, (a3, (a4, (a5, (a6, a7)))))))).bind (H := fun (y : Bool) (k : AV × St → Option Res) => (fun (y : Bool) => k ((.bool y : AV), ([] : St))) y) (fun y => par_ret _)

def impl_Beside_1_g (args : List AV) (st : St) (k : K1) : Option Res :=
  onPats [.agg [.int .i64, .int .i64, .int .i64, .int .i64, .lst tRange, .lst tWrite, .bool, .str], .agg [.int .i64, .int .i64, .int .i64, .int .i64, .lst tRange, .lst tWrite, .bool, .str]] [] args st (fun p q => impl_Beside_1_k (p.1.1, (p.1.2.1, (p.1.2.2.1, (p.1.2.2.2.1, (p.1.2.2.2.2.1, (p.1.2.2.2.2.2.1, (p.1.2.2.2.2.2.2.1, p.1.2.2.2.2.2.2.2.1))))))) (p.2.1.1, (p.2.1.2.1, (p.2.1.2.2.1, (p.2.1.2.2.2.1, (p.2.1.2.2.2.2.1, (p.2.1.2.2.2.2.2.1, (p.2.1.2.2.2.2.2.2.1, p.2.1.2.2.2.2.2.2.2.1))))))) (fun (y : Bool) => k (.bool y) []))
    (none)

theorem impl_Beside_1_q (a0 : Int) (a1 : Int) (a2 : Int) (a3 : Int) (a4 : (List dRange)) (a5 : (List dWrite)) (a6 : Bool) (a7 : ByteArray) (a8 : Int) (a9 : Int) (a10 : Int) (a11 : Int) (a12 : (List dRange)) (a13 : (List dWrite)) (a14 : Bool) (a15 : ByteArray) : Par (fun k : AV × St → Option Res => impl_Beside_1_g [.agg [.int .i64 a0, .int .i64 a1, .int .i64 a2, .int .i64 a3, .lst tRange a4, .lst tWrite a5, .bool a6, .str a7], .agg [.int .i64 a8, .int .i64 a9, .int .i64 a10, .int .i64 a11, .lst tRange a12, .lst tWrite a13, .bool a14, .str a15]] [] (fun v s => k (v, s))) :=
  (impl_Beside_1_p (a0, (a1, (a2, (a3, (a4, (a5, (a6, a7))))))) (a8, (a9, (a10, (a11, (a12, (a13, (a14, a15)))))))).bind (H := fun (y : Bool) (k : AV × St → Option Res) => (fun (y : Bool) => k ((.bool y : AV), ([] : St))) y) (fun y => par_ret _)

def impl_Beside_g (args : List AV) (st : St) (k : K1) : Option Res :=
  onPats [.agg [.int .i64, .int .i64, .int .i64, .int .i64, .lst tRange, .lst tWrite, .bool, .str], .agg [.int .i64, .int .i64, .int .i64, .int .i64, .lst tRange, .lst tWrite, .bool, .str]] [] args st (fun p q => impl_Beside_k (p.1.1, (p.1.2.1, (p.1.2.2.1, (p.1.2.2.2.1, (p.1.2.2.2.2.1, (p.1.2.2.2.2.2.1, (p.1.2.2.2.2.2.2.1, p.1.2.2.2.2.2.2.2.1))))))) (p.2.1.1, (p.2.1.2.1, (p.2.1.2.2.1, (p.2.1.2.2.2.1, (p.2.1.2.2.2.2.1, (p.2.1.2.2.2.2.2.1, (p.2.1.2.2.2.2.2.2.1, p.2.1.2.2.2.2.2.2.2.1))))))) (fun (y : Bool) => k (.bool y) []))
    (none)

theorem impl_Beside_q (a0 : Int) (a1 : Int) (a2 : Int) (a3 : Int) (a4 : (List dRange)) (a5 : (List dWrite)) (a6 : Bool) (a7 : ByteArray) (a8 : Int) (a9 : Int) (a10 : Int) (a11 : Int) (a12 : (List dRange)) (a13 : (List dWrite)) (a14 : Bool) (a15 : ByteArray) : Par (fun k : AV × St → Option Res => impl_Beside_g [.agg [.int .i64 a0, .int .i64 a1, .int .i64 a2, .int .i64 a3, .lst tRange a4, .lst tWrite a5, .bool a6, .str a7], .agg [.int .i64 a8, .int .i64 a9, .int .i64 a10, .int .i64 a11, .lst tRange a12, .lst tWrite a13, .bool a14, .str a15]] [] (fun v s => k (v, s))) :=
  (impl_Beside_p (a0, (a1, (a2, (a3, (a4, (a5, (a6, a7))))))) (a8, (a9, (a10, (a11, (a12, (a13, (a14, a15)))))))).bind (H := fun (y : Bool) (k : AV × St → Option Res) => (fun (y : Bool) => k ((.bool y : AV), ([] : St))) y) (fun y => par_ret _)

def impl_InRange_g (args : List AV) (st : St) (k : K1) : Option Res :=
  onPats [.agg [.str, .str], .str] [] args st (fun p q => impl_InRange_k (p.1.1, p.1.2.1) p.2.1 (fun (y : Bool) => k (.bool y) []))
    (none)

theorem impl_InRange_q (a0 : ByteArray) (a1 : ByteArray) (a2 : ByteArray) : Par (fun k : AV × St → Option Res => impl_InRange_g [.agg [.str a0, .str a1], .str a2] [] (fun v s => k (v, s))) :=
  (impl_InRange_p (a0, a1) a2).bind (H := fun (y : Bool) (k : AV × St → Option Res) => (fun (y : Bool) => k ((.bool y : AV), ([] : St))) y) (fun y => par_ret _)

def impl_Touches_g (args : List AV) (st : St) (k : K1) : Option Res :=
  onPats [.lst tRange, .lst tWrite] [] args st (fun p q => impl_Touches_k p.1 p.2.1 (fun (y : Bool) => k (.bool y) []))
    (none)

theorem impl_Touches_q (a0 : (List dRange)) (a1 : (List dWrite)) : Par (fun k : AV × St → Option Res => impl_Touches_g [.lst tRange a0, .lst tWrite a1] [] (fun v s => k (v, s))) :=
  (impl_Touches_p a0 a1).bind (H := fun (y : Bool) (k : AV × St → Option Res) => (fun (y : Bool) => k ((.bool y : AV), ([] : St))) y) (fun y => par_ret _)

def impl_Ahead_g (args : List AV) (st : St) (k : K1) : Option Res :=
  onPats [.agg [.int .i64, .int .i64, .int .i64, .int .i64, .lst tRange, .lst tWrite, .bool, .str], .agg [.int .i64, .int .i64, .int .i64, .int .i64, .lst tRange, .lst tWrite, .bool, .str]] [] args st (fun p q => impl_Ahead_k (p.1.1, (p.1.2.1, (p.1.2.2.1, (p.1.2.2.2.1, (p.1.2.2.2.2.1, (p.1.2.2.2.2.2.1, (p.1.2.2.2.2.2.2.1, p.1.2.2.2.2.2.2.2.1))))))) (p.2.1.1, (p.2.1.2.1, (p.2.1.2.2.1, (p.2.1.2.2.2.1, (p.2.1.2.2.2.2.1, (p.2.1.2.2.2.2.2.1, (p.2.1.2.2.2.2.2.2.1, p.2.1.2.2.2.2.2.2.2.1))))))) (fun (y : Bool) => k (.bool y) []))
    (none)

theorem impl_Ahead_q (a0 : Int) (a1 : Int) (a2 : Int) (a3 : Int) (a4 : (List dRange)) (a5 : (List dWrite)) (a6 : Bool) (a7 : ByteArray) (a8 : Int) (a9 : Int) (a10 : Int) (a11 : Int) (a12 : (List dRange)) (a13 : (List dWrite)) (a14 : Bool) (a15 : ByteArray) : Par (fun k : AV × St → Option Res => impl_Ahead_g [.agg [.int .i64 a0, .int .i64 a1, .int .i64 a2, .int .i64 a3, .lst tRange a4, .lst tWrite a5, .bool a6, .str a7], .agg [.int .i64 a8, .int .i64 a9, .int .i64 a10, .int .i64 a11, .lst tRange a12, .lst tWrite a13, .bool a14, .str a15]] [] (fun v s => k (v, s))) :=
  (impl_Ahead_p (a0, (a1, (a2, (a3, (a4, (a5, (a6, a7))))))) (a8, (a9, (a10, (a11, (a12, (a13, (a14, a15)))))))).bind (H := fun (y : Bool) (k : AV × St → Option Res) => (fun (y : Bool) => k ((.bool y : AV), ([] : St))) y) (fun y => par_ret _)

def impl_isDone_g (args : List AV) (st : St) (k : K1) : Option Res :=
  onPats [.agg [.int .i64, .int .i64, .int .i64, .int .i64, .lst tRange, .lst tWrite, .bool, .str]] [] args st (fun p q => impl_isDone_k (p.1.1, (p.1.2.1, (p.1.2.2.1, (p.1.2.2.2.1, (p.1.2.2.2.2.1, (p.1.2.2.2.2.2.1, (p.1.2.2.2.2.2.2.1, p.1.2.2.2.2.2.2.2.1))))))) (fun (y : Bool) => k (.bool y) []))
    (none)

theorem impl_isDone_q (a0 : Int) (a1 : Int) (a2 : Int) (a3 : Int) (a4 : (List dRange)) (a5 : (List dWrite)) (a6 : Bool) (a7 : ByteArray) : Par (fun k : AV × St → Option Res => impl_isDone_g [.agg [.int .i64 a0, .int .i64 a1, .int .i64 a2, .int .i64 a3, .lst tRange a4, .lst tWrite a5, .bool a6, .str a7]] [] (fun v s => k (v, s))) :=
  (impl_isDone_p (a0, (a1, (a2, (a3, (a4, (a5, (a6, a7)))))))).bind (H := fun (y : Bool) (k : AV × St → Option Res) => (fun (y : Bool) => k ((.bool y : AV), ([] : St))) y) (fun y => par_ret _)

def impl_InOf_1_g (args : List AV) (st : St) (k : K1) : Option Res :=
  onPats [.agg [.int .i64, .int .i64, .int .i64, .int .i64, .lst tRange, .lst tWrite, .bool, .str], .bp 0 0] [.box [.int .i64, .int .i64, .int .i64, .int .i64, .lst tRange, .lst tWrite, .bool, .str]] args st (fun p q => impl_InOf_1_k (p.1.1, (p.1.2.1, (p.1.2.2.1, (p.1.2.2.2.1, (p.1.2.2.2.2.1, (p.1.2.2.2.2.2.1, (p.1.2.2.2.2.2.2.1, p.1.2.2.2.2.2.2.2.1))))))) q.1.1 q.1.2.1 q.1.2.2.1 q.1.2.2.2.1 q.1.2.2.2.2.1 q.1.2.2.2.2.2.1 q.1.2.2.2.2.2.2.1 q.1.2.2.2.2.2.2.2.1 (fun (y : (Bool × Int × Int × Int × Int × (List dRange) × (List dWrite) × Bool × ByteArray)) => k (.bool y.1) [.box [.int .i64 y.2.1, .int .i64 y.2.2.1, .int .i64 y.2.2.2.1, .int .i64 y.2.2.2.2.1, .lst tRange y.2.2.2.2.2.1, .lst tWrite y.2.2.2.2.2.2.1, .bool y.2.2.2.2.2.2.2.1, .str y.2.2.2.2.2.2.2.2]]))
    (none)

theorem impl_InOf_1_q (a0 : Int) (a1 : Int) (a2 : Int) (a3 : Int) (a4 : (List dRange)) (a5 : (List dWrite)) (a6 : Bool) (a7 : ByteArray) (a8 : Int) (a9 : Int) (a10 : Int) (a11 : Int) (a12 : (List dRange)) (a13 : (List dWrite)) (a14 : Bool) (a15 : ByteArray) : Par (fun k : AV × St → Option Res => impl_InOf_1_g [.agg [.int .i64 a0, .int .i64 a1, .int .i64 a2, .int .i64 a3, .lst tRange a4, .lst tWrite a5, .bool a6, .str a7], .bp 0 0] [.box [.int .i64 a8, .int .i64 a9, .int .i64 a10, .int .i64 a11, .lst tRange a12, .lst tWrite a13, .bool a14, .str a15]] (fun v s => k (v, s))) :=
  (impl_InOf_1_p (a0, (a1, (a2, (a3, (a4, (a5, (a6, a7))))))) a8 a9 a10 a11 a12 a13 a14 a15).bind (H := fun (y : (Bool × Int × Int × Int × Int × (List dRange) × (List dWrite) × Bool × ByteArray)) (k : AV × St → Option Res) => (fun (y : (Bool × Int × Int × Int × Int × (List dRange) × (List dWrite) × Bool × ByteArray)) => k ((.bool y.1 : AV), ([.box [.int .i64 y.2.1, .int .i64 y.2.2.1, .int .i64 y.2.2.2.1, .int .i64 y.2.2.2.2.1, .lst tRange y.2.2.2.2.2.1, .lst tWrite y.2.2.2.2.2.2.1, .bool y.2.2.2.2.2.2.2.1, .str y.2.2.2.2.2.2.2.2]] : St))) y) (fun y => par_ret _)

def slices_IndexFunc_Txn_g (args : List AV) (st : St) (k : K1) : Option Res :=
  onPats [.lst tTxn, .fn 119 [.bp 0 0]] [.box [.int .i64, .int .i64, .int .i64, .int .i64, .lst tRange, .lst tWrite, .bool, .str]] args st (fun p q => slices_IndexFunc_Txn_InOf_1_k p.1 q.1.1 q.1.2.1 q.1.2.2.1 q.1.2.2.2.1 q.1.2.2.2.2.1 q.1.2.2.2.2.2.1 q.1.2.2.2.2.2.2.1 q.1.2.2.2.2.2.2.2.1 (fun (y : (Int × Int × Int × Int × Int × (List dRange) × (List dWrite) × Bool × ByteArray)) => k (.int .i64 y.1) [.box [.int .i64 y.2.1, .int .i64 y.2.2.1, .int .i64 y.2.2.2.1, .int .i64 y.2.2.2.2.1, .lst tRange y.2.2.2.2.2.1, .lst tWrite y.2.2.2.2.2.2.1, .bool y.2.2.2.2.2.2.2.1, .str y.2.2.2.2.2.2.2.2]]))
    (none)

theorem slices_IndexFunc_Txn_InOf_1_q (a0 : (List dTxn)) (a1 : Int) (a2 : Int) (a3 : Int) (a4 : Int) (a5 : (List dRange)) (a6 : (List dWrite)) (a7 : Bool) (a8 : ByteArray) : Par (fun k : AV × St → Option Res => slices_IndexFunc_Txn_g [.lst tTxn a0, .fn 119 [.bp 0 0]] [.box [.int .i64 a1, .int .i64 a2, .int .i64 a3, .int .i64 a4, .lst tRange a5, .lst tWrite a6, .bool a7, .str a8]] (fun v s => k (v, s))) :=
  (slices_IndexFunc_Txn_InOf_1_p a0 a1 a2 a3 a4 a5 a6 a7 a8).bind (H := fun (y : (Int × Int × Int × Int × Int × (List dRange) × (List dWrite) × Bool × ByteArray)) (k : AV × St → Option Res) => (fun (y : (Int × Int × Int × Int × Int × (List dRange) × (List dWrite) × Bool × ByteArray)) => k ((.int .i64 y.1 : AV), ([.box [.int .i64 y.2.1, .int .i64 y.2.2.1, .int .i64 y.2.2.2.1, .int .i64 y.2.2.2.2.1, .lst tRange y.2.2.2.2.2.1, .lst tWrite y.2.2.2.2.2.2.1, .bool y.2.2.2.2.2.2.2.1, .str y.2.2.2.2.2.2.2.2]] : St))) y) (fun y => par_ret _)

def slices_ContainsFunc_Txn_g (args : List AV) (st : St) (k : K1) : Option Res :=
  onPats [.lst tTxn, .fn 119 [.bp 0 0]] [.box [.int .i64, .int .i64, .int .i64, .int .i64, .lst tRange, .lst tWrite, .bool, .str]] args st (fun p q => slices_ContainsFunc_Txn_InOf_1_k p.1 q.1.1 q.1.2.1 q.1.2.2.1 q.1.2.2.2.1 q.1.2.2.2.2.1 q.1.2.2.2.2.2.1 q.1.2.2.2.2.2.2.1 q.1.2.2.2.2.2.2.2.1 (fun (y : (Bool × Int × Int × Int × Int × (List dRange) × (List dWrite) × Bool × ByteArray)) => k (.bool y.1) [.box [.int .i64 y.2.1, .int .i64 y.2.2.1, .int .i64 y.2.2.2.1, .int .i64 y.2.2.2.2.1, .lst tRange y.2.2.2.2.2.1, .lst tWrite y.2.2.2.2.2.2.1, .bool y.2.2.2.2.2.2.2.1, .str y.2.2.2.2.2.2.2.2]]))
    (none)

theorem slices_ContainsFunc_Txn_InOf_1_q (a0 : (List dTxn)) (a1 : Int) (a2 : Int) (a3 : Int) (a4 : Int) (a5 : (List dRange)) (a6 : (List dWrite)) (a7 : Bool) (a8 : ByteArray) : Par (fun k : AV × St → Option Res => slices_ContainsFunc_Txn_g [.lst tTxn a0, .fn 119 [.bp 0 0]] [.box [.int .i64 a1, .int .i64 a2, .int .i64 a3, .int .i64 a4, .lst tRange a5, .lst tWrite a6, .bool a7, .str a8]] (fun v s => k (v, s))) :=
  (slices_ContainsFunc_Txn_InOf_1_p a0 a1 a2 a3 a4 a5 a6 a7 a8).bind (H := fun (y : (Bool × Int × Int × Int × Int × (List dRange) × (List dWrite) × Bool × ByteArray)) (k : AV × St → Option Res) => (fun (y : (Bool × Int × Int × Int × Int × (List dRange) × (List dWrite) × Bool × ByteArray)) => k ((.bool y.1 : AV), ([.box [.int .i64 y.2.1, .int .i64 y.2.2.1, .int .i64 y.2.2.2.1, .int .i64 y.2.2.2.2.1, .lst tRange y.2.2.2.2.2.1, .lst tWrite y.2.2.2.2.2.2.1, .bool y.2.2.2.2.2.2.2.1, .str y.2.2.2.2.2.2.2.2]] : St))) y) (fun y => par_ret _)

def impl_some_g (args : List AV) (st : St) (k : K1) : Option Res :=
  onPats [.lst tTxn, .fn 119 [.bp 0 0]] [.box [.int .i64, .int .i64, .int .i64, .int .i64, .lst tRange, .lst tWrite, .bool, .str]] args st (fun p q => impl_some_InOf_1_k p.1 q.1.1 q.1.2.1 q.1.2.2.1 q.1.2.2.2.1 q.1.2.2.2.2.1 q.1.2.2.2.2.2.1 q.1.2.2.2.2.2.2.1 q.1.2.2.2.2.2.2.2.1 (fun (y : (Bool × Int × Int × Int × Int × (List dRange) × (List dWrite) × Bool × ByteArray)) => k (.bool y.1) [.box [.int .i64 y.2.1, .int .i64 y.2.2.1, .int .i64 y.2.2.2.1, .int .i64 y.2.2.2.2.1, .lst tRange y.2.2.2.2.2.1, .lst tWrite y.2.2.2.2.2.2.1, .bool y.2.2.2.2.2.2.2.1, .str y.2.2.2.2.2.2.2.2]]))
    (none)

theorem impl_some_InOf_1_q (a0 : (List dTxn)) (a1 : Int) (a2 : Int) (a3 : Int) (a4 : Int) (a5 : (List dRange)) (a6 : (List dWrite)) (a7 : Bool) (a8 : ByteArray) : Par (fun k : AV × St → Option Res => impl_some_g [.lst tTxn a0, .fn 119 [.bp 0 0]] [.box [.int .i64 a1, .int .i64 a2, .int .i64 a3, .int .i64 a4, .lst tRange a5, .lst tWrite a6, .bool a7, .str a8]] (fun v s => k (v, s))) :=
  (impl_some_InOf_1_p a0 a1 a2 a3 a4 a5 a6 a7 a8).bind (H := fun (y : (Bool × Int × Int × Int × Int × (List dRange) × (List dWrite) × Bool × ByteArray)) (k : AV × St → Option Res) => (fun (y : (Bool × Int × Int × Int × Int × (List dRange) × (List dWrite) × Bool × ByteArray)) => k ((.bool y.1 : AV), ([.box [.int .i64 y.2.1, .int .i64 y.2.2.1, .int .i64 y.2.2.2.1, .int .i64 y.2.2.2.2.1, .lst tRange y.2.2.2.2.2.1, .lst tWrite y.2.2.2.2.2.2.1, .bool y.2.2.2.2.2.2.2.1, .str y.2.2.2.2.2.2.2.2]] : St))) y) (fun y => par_ret _)

def impl_InOf_g (args : List AV) (st : St) (k : K1) : Option Res :=
  onPats [.agg [.int .i64, .int .i64, .int .i64, .int .i64, .lst tRange, .lst tWrite, .bool, .str], .lst tTxn] [] args st (fun p q => impl_InOf_k (p.1.1, (p.1.2.1, (p.1.2.2.1, (p.1.2.2.2.1, (p.1.2.2.2.2.1, (p.1.2.2.2.2.2.1, (p.1.2.2.2.2.2.2.1, p.1.2.2.2.2.2.2.2.1))))))) p.2.1 (fun (y : Bool) => k (.bool y) []))
    (none)

theorem impl_InOf_q (a0 : Int) (a1 : Int) (a2 : Int) (a3 : Int) (a4 : (List dRange)) (a5 : (List dWrite)) (a6 : Bool) (a7 : ByteArray) (a8 : (List dTxn)) : Par (fun k : AV × St → Option Res => impl_InOf_g [.agg [.int .i64 a0, .int .i64 a1, .int .i64 a2, .int .i64 a3, .lst tRange a4, .lst tWrite a5, .bool a6, .str a7], .lst tTxn a8] [] (fun v s => k (v, s))) :=
  (impl_InOf_p (a0, (a1, (a2, (a3, (a4, (a5, (a6, a7))))))) a8).bind (H := fun (y : Bool) (k : AV × St → Option Res) => (fun (y : Bool) => k ((.bool y : AV), ([] : St))) y) (fun y => par_ret _)

def laws_eqRange_g (args : List AV) (st : St) (k : K1) : Option Res :=
  onPats [.agg [.str, .str], .agg [.str, .str]] [] args st (fun p q => laws_eqRange_k (p.1.1, p.1.2.1) (p.2.1.1, p.2.1.2.1) (fun (y : Bool) => k (.bool y) []))
    (none)

theorem laws_eqRange_q (a0 : ByteArray) (a1 : ByteArray) (a2 : ByteArray) (a3 : ByteArray) : Par (fun k : AV × St → Option Res => laws_eqRange_g [.agg [.str a0, .str a1], .agg [.str a2, .str a3]] [] (fun v s => k (v, s))) :=
  (laws_eqRange_p (a0, a1) (a2, a3)).bind (H := fun (y : Bool) (k : AV × St → Option Res) => (fun (y : Bool) => k ((.bool y : AV), ([] : St))) y) (fun y => par_ret _)

def laws_eqRangeS_g (args : List AV) (st : St) (k : K1) : Option Res :=
  onPats [.lst tRange, .lst tRange] [] args st (fun p q => laws_eqRangeS_k p.1 p.2.1 (fun (y : Bool) => k (.bool y) []))
    (none)

theorem laws_eqRangeS_q (a0 : (List dRange)) (a1 : (List dRange)) : Par (fun k : AV × St → Option Res => laws_eqRangeS_g [.lst tRange a0, .lst tRange a1] [] (fun v s => k (v, s))) :=
  (laws_eqRangeS_p a0 a1).bind (H := fun (y : Bool) (k : AV × St → Option Res) => (fun (y : Bool) => k ((.bool y : AV), ([] : St))) y) (fun y => par_ret _)

def laws_eqWrite_g (args : List AV) (st : St) (k : K1) : Option Res :=
  onPats [.agg [.str, .str, .bool], .agg [.str, .str, .bool]] [] args st (fun p q => laws_eqWrite_k (p.1.1, (p.1.2.1, p.1.2.2.1)) (p.2.1.1, (p.2.1.2.1, p.2.1.2.2.1)) (fun (y : Bool) => k (.bool y) []))
    (none)

theorem laws_eqWrite_q (a0 : ByteArray) (a1 : ByteArray) (a2 : Bool) (a3 : ByteArray) (a4 : ByteArray) (a5 : Bool) : Par (fun k : AV × St → Option Res => laws_eqWrite_g [.agg [.str a0, .str a1, .bool a2], .agg [.str a3, .str a4, .bool a5]] [] (fun v s => k (v, s))) :=
  (laws_eqWrite_p (a0, (a1, a2)) (a3, (a4, a5))).bind (H := fun (y : Bool) (k : AV × St → Option Res) => (fun (y : Bool) => k ((.bool y : AV), ([] : St))) y) (fun y => par_ret _)

def laws_eqWriteS_g (args : List AV) (st : St) (k : K1) : Option Res :=
  onPats [.lst tWrite, .lst tWrite] [] args st (fun p q => laws_eqWriteS_k p.1 p.2.1 (fun (y : Bool) => k (.bool y) []))
    (none)

theorem laws_eqWriteS_q (a0 : (List dWrite)) (a1 : (List dWrite)) : Par (fun k : AV × St → Option Res => laws_eqWriteS_g [.lst tWrite a0, .lst tWrite a1] [] (fun v s => k (v, s))) :=
  (laws_eqWriteS_p a0 a1).bind (H := fun (y : Bool) (k : AV × St → Option Res) => (fun (y : Bool) => k ((.bool y : AV), ([] : St))) y) (fun y => par_ret _)

def laws_eqTxn_g (args : List AV) (st : St) (k : K1) : Option Res :=
  onPats [.agg [.int .i64, .int .i64, .int .i64, .int .i64, .lst tRange, .lst tWrite, .bool, .str], .agg [.int .i64, .int .i64, .int .i64, .int .i64, .lst tRange, .lst tWrite, .bool, .str]] [] args st (fun p q => laws_eqTxn_k (p.1.1, (p.1.2.1, (p.1.2.2.1, (p.1.2.2.2.1, (p.1.2.2.2.2.1, (p.1.2.2.2.2.2.1, (p.1.2.2.2.2.2.2.1, p.1.2.2.2.2.2.2.2.1))))))) (p.2.1.1, (p.2.1.2.1, (p.2.1.2.2.1, (p.2.1.2.2.2.1, (p.2.1.2.2.2.2.1, (p.2.1.2.2.2.2.2.1, (p.2.1.2.2.2.2.2.2.1, p.2.1.2.2.2.2.2.2.2.1))))))) (fun (y : Bool) => k (.bool y) []))
    (none)

theorem laws_eqTxn_q (a0 : Int) (a1 : Int) (a2 : Int) (a3 : Int) (a4 : (List dRange)) (a5 : (List dWrite)) (a6 : Bool) (a7 : ByteArray) (a8 : Int) (a9 : Int) (a10 : Int) (a11 : Int) (a12 : (List dRange)) (a13 : (List dWrite)) (a14 : Bool) (a15 : ByteArray) : Par (fun k : AV × St → Option Res => laws_eqTxn_g [.agg [.int .i64 a0, .int .i64 a1, .int .i64 a2, .int .i64 a3, .lst tRange a4, .lst tWrite a5, .bool a6, .str a7], .agg [.int .i64 a8, .int .i64 a9, .int .i64 a10, .int .i64 a11, .lst tRange a12, .lst tWrite a13, .bool a14, .str a15]] [] (fun v s => k (v, s))) :=
  (laws_eqTxn_p (a0, (a1, (a2, (a3, (a4, (a5, (a6, a7))))))) (a8, (a9, (a10, (a11, (a12, (a13, (a14, a15)))))))).bind (H := fun (y : Bool) (k : AV × St → Option Res) => (fun (y : Bool) => k ((.bool y : AV), ([] : St))) y) (fun y => par_ret _)

def laws_eqTxnS_g (args : List AV) (st : St) (k : K1) : Option Res :=
  onPats [.lst tTxn, .lst tTxn] [] args st (fun p q => laws_eqTxnS_k p.1 p.2.1 (fun (y : Bool) => k (.bool y) []))
    (none)

theorem laws_eqTxnS_q (a0 : (List dTxn)) (a1 : (List dTxn)) : Par (fun k : AV × St → Option Res => laws_eqTxnS_g [.lst tTxn a0, .lst tTxn a1] [] (fun v s => k (v, s))) :=
  (laws_eqTxnS_p a0 a1).bind (H := fun (y : Bool) (k : AV × St → Option Res) => (fun (y : Bool) => k ((.bool y : AV), ([] : St))) y) (fun y => par_ret _)

def laws_FnExactInOf_g (args : List AV) (st : St) (k : K1) : Option Res :=
  onPats [.agg [.int .i64, .int .i64, .int .i64, .int .i64, .lst tRange, .lst tWrite, .bool, .str], .lst tTxn] [] args st (fun p q => laws_FnExactInOf_k (p.1.1, (p.1.2.1, (p.1.2.2.1, (p.1.2.2.2.1, (p.1.2.2.2.2.1, (p.1.2.2.2.2.2.1, (p.1.2.2.2.2.2.2.1, p.1.2.2.2.2.2.2.2.1))))))) p.2.1 (fun (y : Bool) => k (.bool y) []))
    (none)

theorem laws_FnExactInOf_q (a0 : Int) (a1 : Int) (a2 : Int) (a3 : Int) (a4 : (List dRange)) (a5 : (List dWrite)) (a6 : Bool) (a7 : ByteArray) (a8 : (List dTxn)) : Par (fun k : AV × St → Option Res => laws_FnExactInOf_g [.agg [.int .i64 a0, .int .i64 a1, .int .i64 a2, .int .i64 a3, .lst tRange a4, .lst tWrite a5, .bool a6, .str a7], .lst tTxn a8] [] (fun v s => k (v, s))) :=
  (laws_FnExactInOf_p (a0, (a1, (a2, (a3, (a4, (a5, (a6, a7))))))) a8).bind (H := fun (y : Bool) (k : AV × St → Option Res) => (fun (y : Bool) => k ((.bool y : AV), ([] : St))) y) (fun y => par_ret _)

end

end Go.VE
