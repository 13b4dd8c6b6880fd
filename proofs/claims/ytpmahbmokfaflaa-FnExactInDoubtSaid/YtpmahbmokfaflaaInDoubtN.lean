/- Native programs of the functions, written by gen.py. -/

import Derived.Test.YtpmahbmokfaflaaT0

namespace Go.VE

noncomputable section

set_option linter.unusedVariables false
set_option linter.unusedSimpArgs false
set_option maxRecDepth 100000


def laws_szVersion_d (a0 : dVersion) (a1 : Int) (k : Int → Option Res) : Option Res :=
  bif (decide ((IntKind.wrap .i64 (a1 - (a0.1.size : Int))) < (0 : Int))) then
    k (-1 : Int)
  else
    bif (decide ((IntKind.wrap .i64 ((IntKind.wrap .i64 (a1 - (a0.1.size : Int))) - (a0.2.1.size : Int))) < (0 : Int))) then
      k (-1 : Int)
    else
      k (IntKind.wrap .i64 ((IntKind.wrap .i64 (a1 - (a0.1.size : Int))) - (a0.2.1.size : Int)))

theorem laws_szVersion_h : ∃ g : dVersion → Int → (Int → Option Res) → Option Res, g = laws_szVersion_d := ⟨_, rfl⟩
def laws_szVersion_k : dVersion → Int → (Int → Option Res) → Option Res := Classical.choose laws_szVersion_h
theorem laws_szVersion_e : laws_szVersion_k = laws_szVersion_d := Classical.choose_spec laws_szVersion_h

theorem laws_szVersion_p (a0 : dVersion) (a1 : Int) : Par (laws_szVersion_k a0 a1) := by
  rw [laws_szVersion_e]
  unfold laws_szVersion_d
  exact (par_bif (par_ret _) (par_bif (par_ret _) (par_ret _)))

def laws_szVersionS_b0 (x : ((List dVersion) × Int × Int × Int)) (k : ((List dVersion) × Int × Int × Int) ⊕ (((List dVersion) × Int × Int × Int) ⊕ ((List dVersion) × Int × Int × Int)) → Option Res) : Option Res :=
    bif (decide (x.2.2.2 < (x.1.length : Int))) then
      if 0 ≤ x.2.2.2 ∧ x.2.2.2 < (x.1.length : Int) then
        laws_szVersion_k (rd (Ty.zero tVersion) x.1 x.2.2.2) x.2.1 (fun y3 =>
          bif (decide (y3 < (0 : Int))) then
            k (.inr (.inl (x.1, y3, (-1 : Int), x.2.2.2)))
          else
            k (.inl (x.1, y3, x.2.2.1, (IntKind.wrap .i64 (x.2.2.2 + (1 : Int))))))
      else none
    else
      k (.inr (.inr (x.1, x.2.1, x.2.2.1, x.2.2.2)))

theorem laws_szVersionS_bp0 (x : ((List dVersion) × Int × Int × Int)) : Par (laws_szVersionS_b0 x) := by
  unfold laws_szVersionS_b0
  exact (par_bif (par_ite (c := 0 ≤ x.2.2.2 ∧ x.2.2.2 < (x.1.length : Int)) ((laws_szVersion_p (rd (Ty.zero tVersion) x.1 x.2.2.2) x.2.1).bind fun y3 => (par_bif (par_ret _) (par_ret _))) par_none) (par_ret _))

def laws_szVersionS_d (a0 : (List dVersion)) (a1 : Int) (k : Int → Option Res) : Option Res :=
  bif (decide ((IntKind.wrap .i64 (a1 - (a0.length : Int))) < (0 : Int))) then
    k (-1 : Int)
  else
    loopK laws_szVersionS_b0 Fuel (a0, (IntKind.wrap .i64 (a1 - (a0.length : Int))), (0 : Int), (0 : Int)) (Sum.elim (fun z1 =>
      k z1.2.2.1) (fun z2 =>
      k z2.2.1))

theorem laws_szVersionS_h : ∃ g : (List dVersion) → Int → (Int → Option Res) → Option Res, g = laws_szVersionS_d := ⟨_, rfl⟩
def laws_szVersionS_k : (List dVersion) → Int → (Int → Option Res) → Option Res := Classical.choose laws_szVersionS_h
theorem laws_szVersionS_e : laws_szVersionS_k = laws_szVersionS_d := Classical.choose_spec laws_szVersionS_h

theorem laws_szVersionS_p (a0 : (List dVersion)) (a1 : Int) : Par (laws_szVersionS_k a0 a1) := by
  rw [laws_szVersionS_e]
  unfold laws_szVersionS_d
  exact (par_bif (par_ret _) ((par_loop laws_szVersionS_bp0 Fuel (a0, (IntKind.wrap .i64 (a1 - (a0.length : Int))), (0 : Int), (0 : Int))).bind2 (fun z1 => (par_ret _)) (fun z2 => (par_ret _))))

def laws_szRange_d (a0 : dRange) (a1 : Int) (k : Int → Option Res) : Option Res :=
  bif (decide ((IntKind.wrap .i64 (a1 - (a0.1.size : Int))) < (0 : Int))) then
    k (-1 : Int)
  else
    bif (decide ((IntKind.wrap .i64 ((IntKind.wrap .i64 (a1 - (a0.1.size : Int))) - (a0.2.size : Int))) < (0 : Int))) then
      k (-1 : Int)
    else
      k (IntKind.wrap .i64 ((IntKind.wrap .i64 (a1 - (a0.1.size : Int))) - (a0.2.size : Int)))

theorem laws_szRange_h : ∃ g : dRange → Int → (Int → Option Res) → Option Res, g = laws_szRange_d := ⟨_, rfl⟩
def laws_szRange_k : dRange → Int → (Int → Option Res) → Option Res := Classical.choose laws_szRange_h
theorem laws_szRange_e : laws_szRange_k = laws_szRange_d := Classical.choose_spec laws_szRange_h

theorem laws_szRange_p (a0 : dRange) (a1 : Int) : Par (laws_szRange_k a0 a1) := by
  rw [laws_szRange_e]
  unfold laws_szRange_d
  exact (par_bif (par_ret _) (par_bif (par_ret _) (par_ret _)))

def laws_szRangeS_b0 (x : ((List dRange) × Int × Int × Int)) (k : ((List dRange) × Int × Int × Int) ⊕ (((List dRange) × Int × Int × Int) ⊕ ((List dRange) × Int × Int × Int)) → Option Res) : Option Res :=
    bif (decide (x.2.2.2 < (x.1.length : Int))) then
      if 0 ≤ x.2.2.2 ∧ x.2.2.2 < (x.1.length : Int) then
        laws_szRange_k (rd (Ty.zero tRange) x.1 x.2.2.2) x.2.1 (fun y3 =>
          bif (decide (y3 < (0 : Int))) then
            k (.inr (.inl (x.1, y3, (-1 : Int), x.2.2.2)))
          else
            k (.inl (x.1, y3, x.2.2.1, (IntKind.wrap .i64 (x.2.2.2 + (1 : Int))))))
      else none
    else
      k (.inr (.inr (x.1, x.2.1, x.2.2.1, x.2.2.2)))

theorem laws_szRangeS_bp0 (x : ((List dRange) × Int × Int × Int)) : Par (laws_szRangeS_b0 x) := by
  unfold laws_szRangeS_b0
  exact (par_bif (par_ite (c := 0 ≤ x.2.2.2 ∧ x.2.2.2 < (x.1.length : Int)) ((laws_szRange_p (rd (Ty.zero tRange) x.1 x.2.2.2) x.2.1).bind fun y3 => (par_bif (par_ret _) (par_ret _))) par_none) (par_ret _))

def laws_szRangeS_d (a0 : (List dRange)) (a1 : Int) (k : Int → Option Res) : Option Res :=
  bif (decide ((IntKind.wrap .i64 (a1 - (a0.length : Int))) < (0 : Int))) then
    k (-1 : Int)
  else
    loopK laws_szRangeS_b0 Fuel (a0, (IntKind.wrap .i64 (a1 - (a0.length : Int))), (0 : Int), (0 : Int)) (Sum.elim (fun z1 =>
      k z1.2.2.1) (fun z2 =>
      k z2.2.1))

theorem laws_szRangeS_h : ∃ g : (List dRange) → Int → (Int → Option Res) → Option Res, g = laws_szRangeS_d := ⟨_, rfl⟩
def laws_szRangeS_k : (List dRange) → Int → (Int → Option Res) → Option Res := Classical.choose laws_szRangeS_h
theorem laws_szRangeS_e : laws_szRangeS_k = laws_szRangeS_d := Classical.choose_spec laws_szRangeS_h

theorem laws_szRangeS_p (a0 : (List dRange)) (a1 : Int) : Par (laws_szRangeS_k a0 a1) := by
  rw [laws_szRangeS_e]
  unfold laws_szRangeS_d
  exact (par_bif (par_ret _) ((par_loop laws_szRangeS_bp0 Fuel (a0, (IntKind.wrap .i64 (a1 - (a0.length : Int))), (0 : Int), (0 : Int))).bind2 (fun z1 => (par_ret _)) (fun z2 => (par_ret _))))

def laws_szWrite_d (a0 : dWrite) (a1 : Int) (k : Int → Option Res) : Option Res :=
  bif (decide ((IntKind.wrap .i64 (a1 - (a0.1.size : Int))) < (0 : Int))) then
    k (-1 : Int)
  else
    bif (decide ((IntKind.wrap .i64 ((IntKind.wrap .i64 (a1 - (a0.1.size : Int))) - (a0.2.1.size : Int))) < (0 : Int))) then
      k (-1 : Int)
    else
      k (IntKind.wrap .i64 ((IntKind.wrap .i64 (a1 - (a0.1.size : Int))) - (a0.2.1.size : Int)))

theorem laws_szWrite_h : ∃ g : dWrite → Int → (Int → Option Res) → Option Res, g = laws_szWrite_d := ⟨_, rfl⟩
def laws_szWrite_k : dWrite → Int → (Int → Option Res) → Option Res := Classical.choose laws_szWrite_h
theorem laws_szWrite_e : laws_szWrite_k = laws_szWrite_d := Classical.choose_spec laws_szWrite_h

theorem laws_szWrite_p (a0 : dWrite) (a1 : Int) : Par (laws_szWrite_k a0 a1) := by
  rw [laws_szWrite_e]
  unfold laws_szWrite_d
  exact (par_bif (par_ret _) (par_bif (par_ret _) (par_ret _)))

def laws_szWriteS_b0 (x : ((List dWrite) × Int × Int × Int)) (k : ((List dWrite) × Int × Int × Int) ⊕ (((List dWrite) × Int × Int × Int) ⊕ ((List dWrite) × Int × Int × Int)) → Option Res) : Option Res :=
    bif (decide (x.2.2.2 < (x.1.length : Int))) then
      if 0 ≤ x.2.2.2 ∧ x.2.2.2 < (x.1.length : Int) then
        laws_szWrite_k (rd (Ty.zero tWrite) x.1 x.2.2.2) x.2.1 (fun y3 =>
          bif (decide (y3 < (0 : Int))) then
            k (.inr (.inl (x.1, y3, (-1 : Int), x.2.2.2)))
          else
            k (.inl (x.1, y3, x.2.2.1, (IntKind.wrap .i64 (x.2.2.2 + (1 : Int))))))
      else none
    else
      k (.inr (.inr (x.1, x.2.1, x.2.2.1, x.2.2.2)))

theorem laws_szWriteS_bp0 (x : ((List dWrite) × Int × Int × Int)) : Par (laws_szWriteS_b0 x) := by
  unfold laws_szWriteS_b0
  exact (par_bif (par_ite (c := 0 ≤ x.2.2.2 ∧ x.2.2.2 < (x.1.length : Int)) ((laws_szWrite_p (rd (Ty.zero tWrite) x.1 x.2.2.2) x.2.1).bind fun y3 => (par_bif (par_ret _) (par_ret _))) par_none) (par_ret _))

def laws_szWriteS_d (a0 : (List dWrite)) (a1 : Int) (k : Int → Option Res) : Option Res :=
  bif (decide ((IntKind.wrap .i64 (a1 - (a0.length : Int))) < (0 : Int))) then
    k (-1 : Int)
  else
    loopK laws_szWriteS_b0 Fuel (a0, (IntKind.wrap .i64 (a1 - (a0.length : Int))), (0 : Int), (0 : Int)) (Sum.elim (fun z1 =>
      k z1.2.2.1) (fun z2 =>
      k z2.2.1))

theorem laws_szWriteS_h : ∃ g : (List dWrite) → Int → (Int → Option Res) → Option Res, g = laws_szWriteS_d := ⟨_, rfl⟩
def laws_szWriteS_k : (List dWrite) → Int → (Int → Option Res) → Option Res := Classical.choose laws_szWriteS_h
theorem laws_szWriteS_e : laws_szWriteS_k = laws_szWriteS_d := Classical.choose_spec laws_szWriteS_h

theorem laws_szWriteS_p (a0 : (List dWrite)) (a1 : Int) : Par (laws_szWriteS_k a0 a1) := by
  rw [laws_szWriteS_e]
  unfold laws_szWriteS_d
  exact (par_bif (par_ret _) ((par_loop laws_szWriteS_bp0 Fuel (a0, (IntKind.wrap .i64 (a1 - (a0.length : Int))), (0 : Int), (0 : Int))).bind2 (fun z1 => (par_ret _)) (fun z2 => (par_ret _))))

def laws_szTxn_d (a0 : dTxn) (a1 : Int) (k : Int → Option Res) : Option Res :=
  laws_szRangeS_k a0.2.2.2.2.1 a1 (fun y1 =>
    bif (decide (y1 < (0 : Int))) then
      k (-1 : Int)
    else
      laws_szWriteS_k a0.2.2.2.2.2.1 y1 (fun y2 =>
        bif (decide (y2 < (0 : Int))) then
          k (-1 : Int)
        else
          bif (decide ((IntKind.wrap .i64 (y2 - (a0.2.2.2.2.2.2.2.size : Int))) < (0 : Int))) then
            k (-1 : Int)
          else
            k (IntKind.wrap .i64 (y2 - (a0.2.2.2.2.2.2.2.size : Int)))))

theorem laws_szTxn_h : ∃ g : dTxn → Int → (Int → Option Res) → Option Res, g = laws_szTxn_d := ⟨_, rfl⟩
def laws_szTxn_k : dTxn → Int → (Int → Option Res) → Option Res := Classical.choose laws_szTxn_h
theorem laws_szTxn_e : laws_szTxn_k = laws_szTxn_d := Classical.choose_spec laws_szTxn_h

theorem laws_szTxn_p (a0 : dTxn) (a1 : Int) : Par (laws_szTxn_k a0 a1) := by
  rw [laws_szTxn_e]
  unfold laws_szTxn_d
  exact ((laws_szRangeS_p a0.2.2.2.2.1 a1).bind fun y1 => (par_bif (par_ret _) ((laws_szWriteS_p a0.2.2.2.2.2.1 y1).bind fun y2 => (par_bif (par_ret _) (par_bif (par_ret _) (par_ret _))))))

def laws_szTxnS_b0 (x : ((List dTxn) × Int × Int × Int)) (k : ((List dTxn) × Int × Int × Int) ⊕ (((List dTxn) × Int × Int × Int) ⊕ ((List dTxn) × Int × Int × Int)) → Option Res) : Option Res :=
    bif (decide (x.2.2.2 < (x.1.length : Int))) then
      if 0 ≤ x.2.2.2 ∧ x.2.2.2 < (x.1.length : Int) then
        laws_szTxn_k (rd (Ty.zero tTxn) x.1 x.2.2.2) x.2.1 (fun y3 =>
          bif (decide (y3 < (0 : Int))) then
            k (.inr (.inl (x.1, y3, (-1 : Int), x.2.2.2)))
          else
            k (.inl (x.1, y3, x.2.2.1, (IntKind.wrap .i64 (x.2.2.2 + (1 : Int))))))
      else none
    else
      k (.inr (.inr (x.1, x.2.1, x.2.2.1, x.2.2.2)))

theorem laws_szTxnS_bp0 (x : ((List dTxn) × Int × Int × Int)) : Par (laws_szTxnS_b0 x) := by
  unfold laws_szTxnS_b0
  exact (par_bif (par_ite (c := 0 ≤ x.2.2.2 ∧ x.2.2.2 < (x.1.length : Int)) ((laws_szTxn_p (rd (Ty.zero tTxn) x.1 x.2.2.2) x.2.1).bind fun y3 => (par_bif (par_ret _) (par_ret _))) par_none) (par_ret _))

def laws_szTxnS_d (a0 : (List dTxn)) (a1 : Int) (k : Int → Option Res) : Option Res :=
  bif (decide ((IntKind.wrap .i64 (a1 - (a0.length : Int))) < (0 : Int))) then
    k (-1 : Int)
  else
    loopK laws_szTxnS_b0 Fuel (a0, (IntKind.wrap .i64 (a1 - (a0.length : Int))), (0 : Int), (0 : Int)) (Sum.elim (fun z1 =>
      k z1.2.2.1) (fun z2 =>
      k z2.2.1))

theorem laws_szTxnS_h : ∃ g : (List dTxn) → Int → (Int → Option Res) → Option Res, g = laws_szTxnS_d := ⟨_, rfl⟩
def laws_szTxnS_k : (List dTxn) → Int → (Int → Option Res) → Option Res := Classical.choose laws_szTxnS_h
theorem laws_szTxnS_e : laws_szTxnS_k = laws_szTxnS_d := Classical.choose_spec laws_szTxnS_h

theorem laws_szTxnS_p (a0 : (List dTxn)) (a1 : Int) : Par (laws_szTxnS_k a0 a1) := by
  rw [laws_szTxnS_e]
  unfold laws_szTxnS_d
  exact (par_bif (par_ret _) ((par_loop laws_szTxnS_bp0 Fuel (a0, (IntKind.wrap .i64 (a1 - (a0.length : Int))), (0 : Int), (0 : Int))).bind2 (fun z1 => (par_ret _)) (fun z2 => (par_ret _))))

def laws_szBase_d (a0 : dBase) (a1 : Int) (k : Int → Option Res) : Option Res :=
  laws_szVersionS_k a0.1 a1 (fun y1 =>
    bif (decide (y1 < (0 : Int))) then
      k (-1 : Int)
    else
      laws_szTxnS_k a0.2.1 y1 (fun y2 =>
        bif (decide (y2 < (0 : Int))) then
          k (-1 : Int)
        else
          laws_szTxnS_k a0.2.2.1 y2 (fun y3 =>
            bif (decide (y3 < (0 : Int))) then
              k (-1 : Int)
            else
              k y3)))

theorem laws_szBase_h : ∃ g : dBase → Int → (Int → Option Res) → Option Res, g = laws_szBase_d := ⟨_, rfl⟩
def laws_szBase_k : dBase → Int → (Int → Option Res) → Option Res := Classical.choose laws_szBase_h
theorem laws_szBase_e : laws_szBase_k = laws_szBase_d := Classical.choose_spec laws_szBase_h

theorem laws_szBase_p (a0 : dBase) (a1 : Int) : Par (laws_szBase_k a0 a1) := by
  rw [laws_szBase_e]
  unfold laws_szBase_d
  exact ((laws_szVersionS_p a0.1 a1).bind fun y1 => (par_bif (par_ret _) ((laws_szTxnS_p a0.2.1 y1).bind fun y2 => (par_bif (par_ret _) ((laws_szTxnS_p a0.2.2.1 y2).bind fun y3 => (par_bif (par_ret _) (par_ret _)))))))

def laws_szEngine_d (a0 : dEngine) (a1 : Int) (k : Int → Option Res) : Option Res :=
  laws_szBase_k a0.1 a1 (fun y1 =>
    bif (decide (y1 < (0 : Int))) then
      k (-1 : Int)
    else
      laws_szTxnS_k a0.2 y1 (fun y2 =>
        bif (decide (y2 < (0 : Int))) then
          k (-1 : Int)
        else
          k y2))

theorem laws_szEngine_h : ∃ g : dEngine → Int → (Int → Option Res) → Option Res, g = laws_szEngine_d := ⟨_, rfl⟩
def laws_szEngine_k : dEngine → Int → (Int → Option Res) → Option Res := Classical.choose laws_szEngine_h
theorem laws_szEngine_e : laws_szEngine_k = laws_szEngine_d := Classical.choose_spec laws_szEngine_h

theorem laws_szEngine_p (a0 : dEngine) (a1 : Int) : Par (laws_szEngine_k a0 a1) := by
  rw [laws_szEngine_e]
  unfold laws_szEngine_d
  exact ((laws_szBase_p a0.1 a1).bind fun y1 => (par_bif (par_ret _) ((laws_szTxnS_p a0.2 y1).bind fun y2 => (par_bif (par_ret _) (par_ret _)))))

def laws_szStringS_b0 (x : ((List ByteArray) × Int × Int × Int)) (k : ((List ByteArray) × Int × Int × Int) ⊕ (((List ByteArray) × Int × Int × Int) ⊕ ((List ByteArray) × Int × Int × Int)) → Option Res) : Option Res :=
    bif (decide (x.2.2.2 < (x.1.length : Int))) then
      if 0 ≤ x.2.2.2 ∧ x.2.2.2 < (x.1.length : Int) then
        bif (decide ((IntKind.wrap .i64 (x.2.1 - ((rd (Ty.zero .str) x.1 x.2.2.2).size : Int))) < (0 : Int))) then
          k (.inr (.inl (x.1, (IntKind.wrap .i64 (x.2.1 - ((rd (Ty.zero .str) x.1 x.2.2.2).size : Int))), (-1 : Int), x.2.2.2)))
        else
          k (.inl (x.1, (IntKind.wrap .i64 (x.2.1 - ((rd (Ty.zero .str) x.1 x.2.2.2).size : Int))), x.2.2.1, (IntKind.wrap .i64 (x.2.2.2 + (1 : Int)))))
      else none
    else
      k (.inr (.inr (x.1, x.2.1, x.2.2.1, x.2.2.2)))

theorem laws_szStringS_bp0 (x : ((List ByteArray) × Int × Int × Int)) : Par (laws_szStringS_b0 x) := by
  unfold laws_szStringS_b0
  exact (par_bif (par_ite (c := 0 ≤ x.2.2.2 ∧ x.2.2.2 < (x.1.length : Int)) (par_bif (par_ret _) (par_ret _)) par_none) (par_ret _))

def laws_szStringS_d (a0 : (List ByteArray)) (a1 : Int) (k : Int → Option Res) : Option Res :=
  bif (decide ((IntKind.wrap .i64 (a1 - (a0.length : Int))) < (0 : Int))) then
    k (-1 : Int)
  else
    loopK laws_szStringS_b0 Fuel (a0, (IntKind.wrap .i64 (a1 - (a0.length : Int))), (0 : Int), (0 : Int)) (Sum.elim (fun z1 =>
      k z1.2.2.1) (fun z2 =>
      k z2.2.1))

theorem laws_szStringS_h : ∃ g : (List ByteArray) → Int → (Int → Option Res) → Option Res, g = laws_szStringS_d := ⟨_, rfl⟩
def laws_szStringS_k : (List ByteArray) → Int → (Int → Option Res) → Option Res := Classical.choose laws_szStringS_h
theorem laws_szStringS_e : laws_szStringS_k = laws_szStringS_d := Classical.choose_spec laws_szStringS_h

theorem laws_szStringS_p (a0 : (List ByteArray)) (a1 : Int) : Par (laws_szStringS_k a0 a1) := by
  rw [laws_szStringS_e]
  unfold laws_szStringS_d
  exact (par_bif (par_ret _) ((par_loop laws_szStringS_bp0 Fuel (a0, (IntKind.wrap .i64 (a1 - (a0.length : Int))), (0 : Int), (0 : Int))).bind2 (fun z1 => (par_ret _)) (fun z2 => (par_ret _))))

def laws_szPut_d (a0 : dPut) (a1 : Int) (k : Int → Option Res) : Option Res :=
  bif (decide ((IntKind.wrap .i64 (a1 - (a0.2.size : Int))) < (0 : Int))) then
    k (-1 : Int)
  else
    k (IntKind.wrap .i64 (a1 - (a0.2.size : Int)))

theorem laws_szPut_h : ∃ g : dPut → Int → (Int → Option Res) → Option Res, g = laws_szPut_d := ⟨_, rfl⟩
def laws_szPut_k : dPut → Int → (Int → Option Res) → Option Res := Classical.choose laws_szPut_h
theorem laws_szPut_e : laws_szPut_k = laws_szPut_d := Classical.choose_spec laws_szPut_h

theorem laws_szPut_p (a0 : dPut) (a1 : Int) : Par (laws_szPut_k a0 a1) := by
  rw [laws_szPut_e]
  unfold laws_szPut_d
  exact (par_bif (par_ret _) (par_ret _))

def laws_szPutS_b0 (x : ((List dPut) × Int × Int × Int)) (k : ((List dPut) × Int × Int × Int) ⊕ (((List dPut) × Int × Int × Int) ⊕ ((List dPut) × Int × Int × Int)) → Option Res) : Option Res :=
    bif (decide (x.2.2.2 < (x.1.length : Int))) then
      if 0 ≤ x.2.2.2 ∧ x.2.2.2 < (x.1.length : Int) then
        laws_szPut_k (rd (Ty.zero tPut) x.1 x.2.2.2) x.2.1 (fun y3 =>
          bif (decide (y3 < (0 : Int))) then
            k (.inr (.inl (x.1, y3, (-1 : Int), x.2.2.2)))
          else
            k (.inl (x.1, y3, x.2.2.1, (IntKind.wrap .i64 (x.2.2.2 + (1 : Int))))))
      else none
    else
      k (.inr (.inr (x.1, x.2.1, x.2.2.1, x.2.2.2)))

theorem laws_szPutS_bp0 (x : ((List dPut) × Int × Int × Int)) : Par (laws_szPutS_b0 x) := by
  unfold laws_szPutS_b0
  exact (par_bif (par_ite (c := 0 ≤ x.2.2.2 ∧ x.2.2.2 < (x.1.length : Int)) ((laws_szPut_p (rd (Ty.zero tPut) x.1 x.2.2.2) x.2.1).bind fun y3 => (par_bif (par_ret _) (par_ret _))) par_none) (par_ret _))

def laws_szPutS_d (a0 : (List dPut)) (a1 : Int) (k : Int → Option Res) : Option Res :=
  bif (decide ((IntKind.wrap .i64 (a1 - (a0.length : Int))) < (0 : Int))) then
    k (-1 : Int)
  else
    loopK laws_szPutS_b0 Fuel (a0, (IntKind.wrap .i64 (a1 - (a0.length : Int))), (0 : Int), (0 : Int)) (Sum.elim (fun z1 =>
      k z1.2.2.1) (fun z2 =>
      k z2.2.1))

theorem laws_szPutS_h : ∃ g : (List dPut) → Int → (Int → Option Res) → Option Res, g = laws_szPutS_d := ⟨_, rfl⟩
def laws_szPutS_k : (List dPut) → Int → (Int → Option Res) → Option Res := Classical.choose laws_szPutS_h
theorem laws_szPutS_e : laws_szPutS_k = laws_szPutS_d := Classical.choose_spec laws_szPutS_h

theorem laws_szPutS_p (a0 : (List dPut)) (a1 : Int) : Par (laws_szPutS_k a0 a1) := by
  rw [laws_szPutS_e]
  unfold laws_szPutS_d
  exact (par_bif (par_ret _) ((par_loop laws_szPutS_bp0 Fuel (a0, (IntKind.wrap .i64 (a1 - (a0.length : Int))), (0 : Int), (0 : Int))).bind2 (fun z1 => (par_ret _)) (fun z2 => (par_ret _))))

def laws_szDisk_d (a0 : dDisk) (a1 : Int) (k : Int → Option Res) : Option Res :=
  laws_szStringS_k a0.1 a1 (fun y1 =>
    bif (decide (y1 < (0 : Int))) then
      k (-1 : Int)
    else
      laws_szPutS_k a0.2 y1 (fun y2 =>
        bif (decide (y2 < (0 : Int))) then
          k (-1 : Int)
        else
          k y2))

theorem laws_szDisk_h : ∃ g : dDisk → Int → (Int → Option Res) → Option Res, g = laws_szDisk_d := ⟨_, rfl⟩
def laws_szDisk_k : dDisk → Int → (Int → Option Res) → Option Res := Classical.choose laws_szDisk_h
theorem laws_szDisk_e : laws_szDisk_k = laws_szDisk_d := Classical.choose_spec laws_szDisk_h

theorem laws_szDisk_p (a0 : dDisk) (a1 : Int) : Par (laws_szDisk_k a0 a1) := by
  rw [laws_szDisk_e]
  unfold laws_szDisk_d
  exact ((laws_szStringS_p a0.1 a1).bind fun y1 => (par_bif (par_ret _) ((laws_szPutS_p a0.2 y1).bind fun y2 => (par_bif (par_ret _) (par_ret _)))))

def laws_szStore_d (a0 : dStore) (a1 : Int) (k : Int → Option Res) : Option Res :=
  laws_szEngine_k a0.1 a1 (fun y1 =>
    bif (decide (y1 < (0 : Int))) then
      k (-1 : Int)
    else
      laws_szDisk_k a0.2 y1 (fun y2 =>
        bif (decide (y2 < (0 : Int))) then
          k (-1 : Int)
        else
          k y2))

theorem laws_szStore_h : ∃ g : dStore → Int → (Int → Option Res) → Option Res, g = laws_szStore_d := ⟨_, rfl⟩
def laws_szStore_k : dStore → Int → (Int → Option Res) → Option Res := Classical.choose laws_szStore_h
theorem laws_szStore_e : laws_szStore_k = laws_szStore_d := Classical.choose_spec laws_szStore_h

theorem laws_szStore_p (a0 : dStore) (a1 : Int) : Par (laws_szStore_k a0 a1) := by
  rw [laws_szStore_e]
  unfold laws_szStore_d
  exact ((laws_szEngine_p a0.1 a1).bind fun y1 => (par_bif (par_ret _) ((laws_szDisk_p a0.2 y1).bind fun y2 => (par_bif (par_ret _) (par_ret _)))))

def laws_toVersion_d (a0 : dVersion) (k : (ByteArray × ByteArray × Bool × Int) → Option Res) : Option Res :=
  k (a0.1, a0.2.1, a0.2.2.1, a0.2.2.2)

theorem laws_toVersion_h : ∃ g : dVersion → ((ByteArray × ByteArray × Bool × Int) → Option Res) → Option Res, g = laws_toVersion_d := ⟨_, rfl⟩
def laws_toVersion_k : dVersion → ((ByteArray × ByteArray × Bool × Int) → Option Res) → Option Res := Classical.choose laws_toVersion_h
theorem laws_toVersion_e : laws_toVersion_k = laws_toVersion_d := Classical.choose_spec laws_toVersion_h

theorem laws_toVersion_p (a0 : dVersion) : Par (laws_toVersion_k a0) := by
  rw [laws_toVersion_e]
  unfold laws_toVersion_d
  exact (par_ret _)

def laws_toVersionS_b0 (x : ((List dVersion) × Int × (List dVersion))) (k : ((List dVersion) × Int × (List dVersion)) ⊕ ((List dVersion) × Int × (List dVersion)) → Option Res) : Option Res :=
    bif (decide (x.2.1 < (x.1.length : Int))) then
      if 0 ≤ x.2.1 ∧ x.2.1 < (x.1.length : Int) then
        laws_toVersion_k (rd (Ty.zero tVersion) x.1 x.2.1) (fun y2 =>
          if 0 ≤ x.2.1 ∧ x.2.1 < (x.2.2.length : Int) then
            k (.inl (x.1, (IntKind.wrap .i64 (x.2.1 + (1 : Int))), (x.2.2.set x.2.1.toNat y2)))
          else none)
      else none
    else
      k (.inr (x.1, x.2.1, x.2.2))

theorem laws_toVersionS_bp0 (x : ((List dVersion) × Int × (List dVersion))) : Par (laws_toVersionS_b0 x) := by
  unfold laws_toVersionS_b0
  exact (par_bif (par_ite (c := 0 ≤ x.2.1 ∧ x.2.1 < (x.1.length : Int)) ((laws_toVersion_p (rd (Ty.zero tVersion) x.1 x.2.1)).bind fun y2 => (par_ite (c := 0 ≤ x.2.1 ∧ x.2.1 < (x.2.2.length : Int)) (par_ret _) par_none)) par_none) (par_ret _))

def laws_toVersionS_d (a0 : (List dVersion)) (k : (List dVersion) → Option Res) : Option Res :=
  if 0 ≤ (a0.length : Int) ∧ (a0.length : Int) ≤ (a0.length : Int) ∧ (a0.length : Int) ≤ (VE.maxLen : Int) then
    loopK laws_toVersionS_b0 Fuel (a0, (0 : Int), (List.replicate (a0.length : Int).toNat (Ty.zero tVersion))) (fun z1 =>
      k z1.2.2)
  else none

theorem laws_toVersionS_h : ∃ g : (List dVersion) → ((List dVersion) → Option Res) → Option Res, g = laws_toVersionS_d := ⟨_, rfl⟩
def laws_toVersionS_k : (List dVersion) → ((List dVersion) → Option Res) → Option Res := Classical.choose laws_toVersionS_h
theorem laws_toVersionS_e : laws_toVersionS_k = laws_toVersionS_d := Classical.choose_spec laws_toVersionS_h

theorem laws_toVersionS_p (a0 : (List dVersion)) : Par (laws_toVersionS_k a0) := by
  rw [laws_toVersionS_e]
  unfold laws_toVersionS_d
  exact (par_ite (c := 0 ≤ (a0.length : Int) ∧ (a0.length : Int) ≤ (a0.length : Int) ∧ (a0.length : Int) ≤ (VE.maxLen : Int)) ((par_loop laws_toVersionS_bp0 Fuel (a0, (0 : Int), (List.replicate (a0.length : Int).toNat (Ty.zero tVersion)))).bind fun z1 => (par_ret _)) par_none)

def laws_toRange_d (a0 : dRange) (k : (ByteArray × ByteArray) → Option Res) : Option Res :=
  k (a0.1, a0.2)

theorem laws_toRange_h : ∃ g : dRange → ((ByteArray × ByteArray) → Option Res) → Option Res, g = laws_toRange_d := ⟨_, rfl⟩
def laws_toRange_k : dRange → ((ByteArray × ByteArray) → Option Res) → Option Res := Classical.choose laws_toRange_h
theorem laws_toRange_e : laws_toRange_k = laws_toRange_d := Classical.choose_spec laws_toRange_h

theorem laws_toRange_p (a0 : dRange) : Par (laws_toRange_k a0) := by
  rw [laws_toRange_e]
  unfold laws_toRange_d
  exact (par_ret _)

def laws_toRangeS_b0 (x : ((List dRange) × Int × (List dRange))) (k : ((List dRange) × Int × (List dRange)) ⊕ ((List dRange) × Int × (List dRange)) → Option Res) : Option Res :=
    bif (decide (x.2.1 < (x.1.length : Int))) then
      if 0 ≤ x.2.1 ∧ x.2.1 < (x.1.length : Int) then
        laws_toRange_k (rd (Ty.zero tRange) x.1 x.2.1) (fun y2 =>
          if 0 ≤ x.2.1 ∧ x.2.1 < (x.2.2.length : Int) then
            k (.inl (x.1, (IntKind.wrap .i64 (x.2.1 + (1 : Int))), (x.2.2.set x.2.1.toNat y2)))
          else none)
      else none
    else
      k (.inr (x.1, x.2.1, x.2.2))

theorem laws_toRangeS_bp0 (x : ((List dRange) × Int × (List dRange))) : Par (laws_toRangeS_b0 x) := by
  unfold laws_toRangeS_b0
  exact (par_bif (par_ite (c := 0 ≤ x.2.1 ∧ x.2.1 < (x.1.length : Int)) ((laws_toRange_p (rd (Ty.zero tRange) x.1 x.2.1)).bind fun y2 => (par_ite (c := 0 ≤ x.2.1 ∧ x.2.1 < (x.2.2.length : Int)) (par_ret _) par_none)) par_none) (par_ret _))

def laws_toRangeS_d (a0 : (List dRange)) (k : (List dRange) → Option Res) : Option Res :=
  if 0 ≤ (a0.length : Int) ∧ (a0.length : Int) ≤ (a0.length : Int) ∧ (a0.length : Int) ≤ (VE.maxLen : Int) then
    loopK laws_toRangeS_b0 Fuel (a0, (0 : Int), (List.replicate (a0.length : Int).toNat (Ty.zero tRange))) (fun z1 =>
      k z1.2.2)
  else none

theorem laws_toRangeS_h : ∃ g : (List dRange) → ((List dRange) → Option Res) → Option Res, g = laws_toRangeS_d := ⟨_, rfl⟩
def laws_toRangeS_k : (List dRange) → ((List dRange) → Option Res) → Option Res := Classical.choose laws_toRangeS_h
theorem laws_toRangeS_e : laws_toRangeS_k = laws_toRangeS_d := Classical.choose_spec laws_toRangeS_h

theorem laws_toRangeS_p (a0 : (List dRange)) : Par (laws_toRangeS_k a0) := by
  rw [laws_toRangeS_e]
  unfold laws_toRangeS_d
  exact (par_ite (c := 0 ≤ (a0.length : Int) ∧ (a0.length : Int) ≤ (a0.length : Int) ∧ (a0.length : Int) ≤ (VE.maxLen : Int)) ((par_loop laws_toRangeS_bp0 Fuel (a0, (0 : Int), (List.replicate (a0.length : Int).toNat (Ty.zero tRange)))).bind fun z1 => (par_ret _)) par_none)

def laws_toWrite_d (a0 : dWrite) (k : (ByteArray × ByteArray × Bool) → Option Res) : Option Res :=
  k (a0.1, a0.2.1, a0.2.2)

theorem laws_toWrite_h : ∃ g : dWrite → ((ByteArray × ByteArray × Bool) → Option Res) → Option Res, g = laws_toWrite_d := ⟨_, rfl⟩
def laws_toWrite_k : dWrite → ((ByteArray × ByteArray × Bool) → Option Res) → Option Res := Classical.choose laws_toWrite_h
theorem laws_toWrite_e : laws_toWrite_k = laws_toWrite_d := Classical.choose_spec laws_toWrite_h

theorem laws_toWrite_p (a0 : dWrite) : Par (laws_toWrite_k a0) := by
  rw [laws_toWrite_e]
  unfold laws_toWrite_d
  exact (par_ret _)

def laws_toWriteS_b0 (x : ((List dWrite) × Int × (List dWrite))) (k : ((List dWrite) × Int × (List dWrite)) ⊕ ((List dWrite) × Int × (List dWrite)) → Option Res) : Option Res :=
    bif (decide (x.2.1 < (x.1.length : Int))) then
      if 0 ≤ x.2.1 ∧ x.2.1 < (x.1.length : Int) then
        laws_toWrite_k (rd (Ty.zero tWrite) x.1 x.2.1) (fun y2 =>
          if 0 ≤ x.2.1 ∧ x.2.1 < (x.2.2.length : Int) then
            k (.inl (x.1, (IntKind.wrap .i64 (x.2.1 + (1 : Int))), (x.2.2.set x.2.1.toNat y2)))
          else none)
      else none
    else
      k (.inr (x.1, x.2.1, x.2.2))

theorem laws_toWriteS_bp0 (x : ((List dWrite) × Int × (List dWrite))) : Par (laws_toWriteS_b0 x) := by
  unfold laws_toWriteS_b0
  exact (par_bif (par_ite (c := 0 ≤ x.2.1 ∧ x.2.1 < (x.1.length : Int)) ((laws_toWrite_p (rd (Ty.zero tWrite) x.1 x.2.1)).bind fun y2 => (par_ite (c := 0 ≤ x.2.1 ∧ x.2.1 < (x.2.2.length : Int)) (par_ret _) par_none)) par_none) (par_ret _))

def laws_toWriteS_d (a0 : (List dWrite)) (k : (List dWrite) → Option Res) : Option Res :=
  if 0 ≤ (a0.length : Int) ∧ (a0.length : Int) ≤ (a0.length : Int) ∧ (a0.length : Int) ≤ (VE.maxLen : Int) then
    loopK laws_toWriteS_b0 Fuel (a0, (0 : Int), (List.replicate (a0.length : Int).toNat (Ty.zero tWrite))) (fun z1 =>
      k z1.2.2)
  else none

theorem laws_toWriteS_h : ∃ g : (List dWrite) → ((List dWrite) → Option Res) → Option Res, g = laws_toWriteS_d := ⟨_, rfl⟩
def laws_toWriteS_k : (List dWrite) → ((List dWrite) → Option Res) → Option Res := Classical.choose laws_toWriteS_h
theorem laws_toWriteS_e : laws_toWriteS_k = laws_toWriteS_d := Classical.choose_spec laws_toWriteS_h

theorem laws_toWriteS_p (a0 : (List dWrite)) : Par (laws_toWriteS_k a0) := by
  rw [laws_toWriteS_e]
  unfold laws_toWriteS_d
  exact (par_ite (c := 0 ≤ (a0.length : Int) ∧ (a0.length : Int) ≤ (a0.length : Int) ∧ (a0.length : Int) ≤ (VE.maxLen : Int)) ((par_loop laws_toWriteS_bp0 Fuel (a0, (0 : Int), (List.replicate (a0.length : Int).toNat (Ty.zero tWrite)))).bind fun z1 => (par_ret _)) par_none)

def laws_toTxn_d (a0 : dTxn) (k : (Int × Int × Int × Int × Bool × ByteArray × (List dRange) × (List dWrite)) → Option Res) : Option Res :=
  laws_toRangeS_k a0.2.2.2.2.1 (fun y1 =>
    laws_toWriteS_k a0.2.2.2.2.2.1 (fun y2 =>
      k (a0.1, a0.2.1, a0.2.2.1, a0.2.2.2.1, a0.2.2.2.2.2.2.1, a0.2.2.2.2.2.2.2, y1, y2)))

theorem laws_toTxn_h : ∃ g : dTxn → ((Int × Int × Int × Int × Bool × ByteArray × (List dRange) × (List dWrite)) → Option Res) → Option Res, g = laws_toTxn_d := ⟨_, rfl⟩
def laws_toTxn_k : dTxn → ((Int × Int × Int × Int × Bool × ByteArray × (List dRange) × (List dWrite)) → Option Res) → Option Res := Classical.choose laws_toTxn_h
theorem laws_toTxn_e : laws_toTxn_k = laws_toTxn_d := Classical.choose_spec laws_toTxn_h

theorem laws_toTxn_p (a0 : dTxn) : Par (laws_toTxn_k a0) := by
  rw [laws_toTxn_e]
  unfold laws_toTxn_d
  exact ((laws_toRangeS_p a0.2.2.2.2.1).bind fun y1 => ((laws_toWriteS_p a0.2.2.2.2.2.1).bind fun y2 => (par_ret _)))

def laws_toTxnS_b0 (x : ((List dTxn) × Int × (List dTxn))) (k : ((List dTxn) × Int × (List dTxn)) ⊕ ((List dTxn) × Int × (List dTxn)) → Option Res) : Option Res :=
    bif (decide (x.2.1 < (x.1.length : Int))) then
      if 0 ≤ x.2.1 ∧ x.2.1 < (x.1.length : Int) then
        laws_toTxn_k (rd (Ty.zero tTxn) x.1 x.2.1) (fun y2 =>
          if 0 ≤ x.2.1 ∧ x.2.1 < (x.2.2.length : Int) then
            k (.inl (x.1, (IntKind.wrap .i64 (x.2.1 + (1 : Int))), (x.2.2.set x.2.1.toNat (y2.1, (y2.2.1, (y2.2.2.1, (y2.2.2.2.1, (y2.2.2.2.2.2.2.1, (y2.2.2.2.2.2.2.2, (y2.2.2.2.2.1, y2.2.2.2.2.2.1))))))))))
          else none)
      else none
    else
      k (.inr (x.1, x.2.1, x.2.2))

theorem laws_toTxnS_bp0 (x : ((List dTxn) × Int × (List dTxn))) : Par (laws_toTxnS_b0 x) := by
  unfold laws_toTxnS_b0
  exact (par_bif (par_ite (c := 0 ≤ x.2.1 ∧ x.2.1 < (x.1.length : Int)) ((laws_toTxn_p (rd (Ty.zero tTxn) x.1 x.2.1)).bind fun y2 => (par_ite (c := 0 ≤ x.2.1 ∧ x.2.1 < (x.2.2.length : Int)) (par_ret _) par_none)) par_none) (par_ret _))

def laws_toTxnS_d (a0 : (List dTxn)) (k : (List dTxn) → Option Res) : Option Res :=
  if 0 ≤ (a0.length : Int) ∧ (a0.length : Int) ≤ (a0.length : Int) ∧ (a0.length : Int) ≤ (VE.maxLen : Int) then
    loopK laws_toTxnS_b0 Fuel (a0, (0 : Int), (List.replicate (a0.length : Int).toNat (Ty.zero tTxn))) (fun z1 =>
      k z1.2.2)
  else none

theorem laws_toTxnS_h : ∃ g : (List dTxn) → ((List dTxn) → Option Res) → Option Res, g = laws_toTxnS_d := ⟨_, rfl⟩
def laws_toTxnS_k : (List dTxn) → ((List dTxn) → Option Res) → Option Res := Classical.choose laws_toTxnS_h
theorem laws_toTxnS_e : laws_toTxnS_k = laws_toTxnS_d := Classical.choose_spec laws_toTxnS_h

theorem laws_toTxnS_p (a0 : (List dTxn)) : Par (laws_toTxnS_k a0) := by
  rw [laws_toTxnS_e]
  unfold laws_toTxnS_d
  exact (par_ite (c := 0 ≤ (a0.length : Int) ∧ (a0.length : Int) ≤ (a0.length : Int) ∧ (a0.length : Int) ≤ (VE.maxLen : Int)) ((par_loop laws_toTxnS_bp0 Fuel (a0, (0 : Int), (List.replicate (a0.length : Int).toNat (Ty.zero tTxn)))).bind fun z1 => (par_ret _)) par_none)

def laws_toBase_d (a0 : dBase) (k : (Int × Int × (List dVersion) × (List dTxn) × (List dTxn)) → Option Res) : Option Res :=
  laws_toVersionS_k a0.1 (fun y1 =>
    laws_toTxnS_k a0.2.1 (fun y2 =>
      laws_toTxnS_k a0.2.2.1 (fun y3 =>
        k (a0.2.2.2.1, a0.2.2.2.2, y1, y2, y3))))

theorem laws_toBase_h : ∃ g : dBase → ((Int × Int × (List dVersion) × (List dTxn) × (List dTxn)) → Option Res) → Option Res, g = laws_toBase_d := ⟨_, rfl⟩
def laws_toBase_k : dBase → ((Int × Int × (List dVersion) × (List dTxn) × (List dTxn)) → Option Res) → Option Res := Classical.choose laws_toBase_h
theorem laws_toBase_e : laws_toBase_k = laws_toBase_d := Classical.choose_spec laws_toBase_h

theorem laws_toBase_p (a0 : dBase) : Par (laws_toBase_k a0) := by
  rw [laws_toBase_e]
  unfold laws_toBase_d
  exact ((laws_toVersionS_p a0.1).bind fun y1 => ((laws_toTxnS_p a0.2.1).bind fun y2 => ((laws_toTxnS_p a0.2.2.1).bind fun y3 => (par_ret _))))

def laws_toEngine_d (a0 : dEngine) (k : (Int × Int × (List dVersion) × (List dTxn) × (List dTxn) × (List dTxn)) → Option Res) : Option Res :=
  laws_toBase_k a0.1 (fun y1 =>
    laws_toTxnS_k a0.2 (fun y2 =>
      k (y1.1, y1.2.1, y1.2.2.1, y1.2.2.2.1, y1.2.2.2.2, y2)))

theorem laws_toEngine_h : ∃ g : dEngine → ((Int × Int × (List dVersion) × (List dTxn) × (List dTxn) × (List dTxn)) → Option Res) → Option Res, g = laws_toEngine_d := ⟨_, rfl⟩
def laws_toEngine_k : dEngine → ((Int × Int × (List dVersion) × (List dTxn) × (List dTxn) × (List dTxn)) → Option Res) → Option Res := Classical.choose laws_toEngine_h
theorem laws_toEngine_e : laws_toEngine_k = laws_toEngine_d := Classical.choose_spec laws_toEngine_h

theorem laws_toEngine_p (a0 : dEngine) : Par (laws_toEngine_k a0) := by
  rw [laws_toEngine_e]
  unfold laws_toEngine_d
  exact ((laws_toBase_p a0.1).bind fun y1 => ((laws_toTxnS_p a0.2).bind fun y2 => (par_ret _)))

def laws_toStringS_b0 (x : ((List ByteArray) × Int × (List ByteArray))) (k : ((List ByteArray) × Int × (List ByteArray)) ⊕ ((List ByteArray) × Int × (List ByteArray)) → Option Res) : Option Res :=
    bif (decide (x.2.1 < (x.1.length : Int))) then
      if 0 ≤ x.2.1 ∧ x.2.1 < (x.1.length : Int) then
        if 0 ≤ x.2.1 ∧ x.2.1 < (x.2.2.length : Int) then
          k (.inl (x.1, (IntKind.wrap .i64 (x.2.1 + (1 : Int))), (x.2.2.set x.2.1.toNat (rd (Ty.zero .str) x.1 x.2.1))))
        else none
      else none
    else
      k (.inr (x.1, x.2.1, x.2.2))

theorem laws_toStringS_bp0 (x : ((List ByteArray) × Int × (List ByteArray))) : Par (laws_toStringS_b0 x) := by
  unfold laws_toStringS_b0
  exact (par_bif (par_ite (c := 0 ≤ x.2.1 ∧ x.2.1 < (x.1.length : Int)) (par_ite (c := 0 ≤ x.2.1 ∧ x.2.1 < (x.2.2.length : Int)) (par_ret _) par_none) par_none) (par_ret _))

def laws_toStringS_d (a0 : (List ByteArray)) (k : (List ByteArray) → Option Res) : Option Res :=
  if 0 ≤ (a0.length : Int) ∧ (a0.length : Int) ≤ (a0.length : Int) ∧ (a0.length : Int) ≤ (VE.maxLen : Int) then
    loopK laws_toStringS_b0 Fuel (a0, (0 : Int), (List.replicate (a0.length : Int).toNat (Ty.zero .str))) (fun z1 =>
      k z1.2.2)
  else none

theorem laws_toStringS_h : ∃ g : (List ByteArray) → ((List ByteArray) → Option Res) → Option Res, g = laws_toStringS_d := ⟨_, rfl⟩
def laws_toStringS_k : (List ByteArray) → ((List ByteArray) → Option Res) → Option Res := Classical.choose laws_toStringS_h
theorem laws_toStringS_e : laws_toStringS_k = laws_toStringS_d := Classical.choose_spec laws_toStringS_h

theorem laws_toStringS_p (a0 : (List ByteArray)) : Par (laws_toStringS_k a0) := by
  rw [laws_toStringS_e]
  unfold laws_toStringS_d
  exact (par_ite (c := 0 ≤ (a0.length : Int) ∧ (a0.length : Int) ≤ (a0.length : Int) ∧ (a0.length : Int) ≤ (VE.maxLen : Int)) ((par_loop laws_toStringS_bp0 Fuel (a0, (0 : Int), (List.replicate (a0.length : Int).toNat (Ty.zero .str)))).bind fun z1 => (par_ret _)) par_none)

def laws_toPut_d (a0 : dPut) (k : (Int × ByteArray) → Option Res) : Option Res :=
  k (a0.1, a0.2)

theorem laws_toPut_h : ∃ g : dPut → ((Int × ByteArray) → Option Res) → Option Res, g = laws_toPut_d := ⟨_, rfl⟩
def laws_toPut_k : dPut → ((Int × ByteArray) → Option Res) → Option Res := Classical.choose laws_toPut_h
theorem laws_toPut_e : laws_toPut_k = laws_toPut_d := Classical.choose_spec laws_toPut_h

theorem laws_toPut_p (a0 : dPut) : Par (laws_toPut_k a0) := by
  rw [laws_toPut_e]
  unfold laws_toPut_d
  exact (par_ret _)

def laws_toPutS_b0 (x : ((List dPut) × Int × (List dPut))) (k : ((List dPut) × Int × (List dPut)) ⊕ ((List dPut) × Int × (List dPut)) → Option Res) : Option Res :=
    bif (decide (x.2.1 < (x.1.length : Int))) then
      if 0 ≤ x.2.1 ∧ x.2.1 < (x.1.length : Int) then
        laws_toPut_k (rd (Ty.zero tPut) x.1 x.2.1) (fun y2 =>
          if 0 ≤ x.2.1 ∧ x.2.1 < (x.2.2.length : Int) then
            k (.inl (x.1, (IntKind.wrap .i64 (x.2.1 + (1 : Int))), (x.2.2.set x.2.1.toNat y2)))
          else none)
      else none
    else
      k (.inr (x.1, x.2.1, x.2.2))

theorem laws_toPutS_bp0 (x : ((List dPut) × Int × (List dPut))) : Par (laws_toPutS_b0 x) := by
  unfold laws_toPutS_b0
  exact (par_bif (par_ite (c := 0 ≤ x.2.1 ∧ x.2.1 < (x.1.length : Int)) ((laws_toPut_p (rd (Ty.zero tPut) x.1 x.2.1)).bind fun y2 => (par_ite (c := 0 ≤ x.2.1 ∧ x.2.1 < (x.2.2.length : Int)) (par_ret _) par_none)) par_none) (par_ret _))

def laws_toPutS_d (a0 : (List dPut)) (k : (List dPut) → Option Res) : Option Res :=
  if 0 ≤ (a0.length : Int) ∧ (a0.length : Int) ≤ (a0.length : Int) ∧ (a0.length : Int) ≤ (VE.maxLen : Int) then
    loopK laws_toPutS_b0 Fuel (a0, (0 : Int), (List.replicate (a0.length : Int).toNat (Ty.zero tPut))) (fun z1 =>
      k z1.2.2)
  else none

theorem laws_toPutS_h : ∃ g : (List dPut) → ((List dPut) → Option Res) → Option Res, g = laws_toPutS_d := ⟨_, rfl⟩
def laws_toPutS_k : (List dPut) → ((List dPut) → Option Res) → Option Res := Classical.choose laws_toPutS_h
theorem laws_toPutS_e : laws_toPutS_k = laws_toPutS_d := Classical.choose_spec laws_toPutS_h

theorem laws_toPutS_p (a0 : (List dPut)) : Par (laws_toPutS_k a0) := by
  rw [laws_toPutS_e]
  unfold laws_toPutS_d
  exact (par_ite (c := 0 ≤ (a0.length : Int) ∧ (a0.length : Int) ≤ (a0.length : Int) ∧ (a0.length : Int) ≤ (VE.maxLen : Int)) ((par_loop laws_toPutS_bp0 Fuel (a0, (0 : Int), (List.replicate (a0.length : Int).toNat (Ty.zero tPut)))).bind fun z1 => (par_ret _)) par_none)

def laws_toDisk_d (a0 : dDisk) (k : ((List ByteArray) × (List dPut)) → Option Res) : Option Res :=
  laws_toStringS_k a0.1 (fun y1 =>
    laws_toPutS_k a0.2 (fun y2 =>
      k (y1, y2)))

theorem laws_toDisk_h : ∃ g : dDisk → (((List ByteArray) × (List dPut)) → Option Res) → Option Res, g = laws_toDisk_d := ⟨_, rfl⟩
def laws_toDisk_k : dDisk → (((List ByteArray) × (List dPut)) → Option Res) → Option Res := Classical.choose laws_toDisk_h
theorem laws_toDisk_e : laws_toDisk_k = laws_toDisk_d := Classical.choose_spec laws_toDisk_h

theorem laws_toDisk_p (a0 : dDisk) : Par (laws_toDisk_k a0) := by
  rw [laws_toDisk_e]
  unfold laws_toDisk_d
  exact ((laws_toStringS_p a0.1).bind fun y1 => ((laws_toPutS_p a0.2).bind fun y2 => (par_ret _)))

def laws_toStore_d (a0 : dStore) (k : (Int × Int × (List dVersion) × (List dTxn) × (List dTxn) × (List dTxn) × (List ByteArray) × (List dPut)) → Option Res) : Option Res :=
  laws_toEngine_k a0.1 (fun y1 =>
    laws_toDisk_k a0.2 (fun y2 =>
      k (y1.1, y1.2.1, y1.2.2.1, y1.2.2.2.1, y1.2.2.2.2.1, y1.2.2.2.2.2, y2.1, y2.2)))

theorem laws_toStore_h : ∃ g : dStore → ((Int × Int × (List dVersion) × (List dTxn) × (List dTxn) × (List dTxn) × (List ByteArray) × (List dPut)) → Option Res) → Option Res, g = laws_toStore_d := ⟨_, rfl⟩
def laws_toStore_k : dStore → ((Int × Int × (List dVersion) × (List dTxn) × (List dTxn) × (List dTxn) × (List ByteArray) × (List dPut)) → Option Res) → Option Res := Classical.choose laws_toStore_h
theorem laws_toStore_e : laws_toStore_k = laws_toStore_d := Classical.choose_spec laws_toStore_h

theorem laws_toStore_p (a0 : dStore) : Par (laws_toStore_k a0) := by
  rw [laws_toStore_e]
  unfold laws_toStore_d
  exact ((laws_toEngine_p a0.1).bind fun y1 => ((laws_toDisk_p a0.2).bind fun y2 => (par_ret _)))

def spec_InDoubt_b0 (x : (Int × (List dVersion) × (List dTxn) × (List dTxn) × Int × Int × (List dTxn) × (List ByteArray) × (List dPut) × (List ByteArray))) (k : (Int × (List dVersion) × (List dTxn) × (List dTxn) × Int × Int × (List dTxn) × (List ByteArray) × (List dPut) × (List ByteArray)) ⊕ (Int × (List dVersion) × (List dTxn) × (List dTxn) × Int × Int × (List dTxn) × (List ByteArray) × (List dPut) × (List ByteArray)) → Option Res) : Option Res :=
    bif (decide (x.1 < (x.2.2.2.1.length : Int))) then
      if 0 ≤ x.1 ∧ x.1 < (x.2.2.2.1.length : Int) then
        if x.2.2.2.2.2.2.2.2.2.length + [(rd (Ty.zero tTxn) x.2.2.2.1 x.1).2.2.2.2.2.2.2].length ≤ VE.maxLen then
          k (.inl ((IntKind.wrap .i64 (x.1 + (1 : Int))), x.2.1, x.2.2.1, x.2.2.2.1, x.2.2.2.2.1, x.2.2.2.2.2.1, x.2.2.2.2.2.2.1, x.2.2.2.2.2.2.2.1, x.2.2.2.2.2.2.2.2.1, (x.2.2.2.2.2.2.2.2.2 ++ [(rd (Ty.zero tTxn) x.2.2.2.1 x.1).2.2.2.2.2.2.2])))
        else none
      else none
    else
      k (.inr (x.1, x.2.1, x.2.2.1, x.2.2.2.1, x.2.2.2.2.1, x.2.2.2.2.2.1, x.2.2.2.2.2.2.1, x.2.2.2.2.2.2.2.1, x.2.2.2.2.2.2.2.2.1, x.2.2.2.2.2.2.2.2.2))

theorem spec_InDoubt_bp0 (x : (Int × (List dVersion) × (List dTxn) × (List dTxn) × Int × Int × (List dTxn) × (List ByteArray) × (List dPut) × (List ByteArray))) : Par (spec_InDoubt_b0 x) := by
  unfold spec_InDoubt_b0
  exact (par_bif (par_ite (c := 0 ≤ x.1 ∧ x.1 < (x.2.2.2.1.length : Int)) (par_ite (c := x.2.2.2.2.2.2.2.2.2.length + [(rd (Ty.zero tTxn) x.2.2.2.1 x.1).2.2.2.2.2.2.2].length ≤ VE.maxLen) (par_ret _) par_none) par_none) (par_ret _))

def spec_InDoubt_d (a0 : dStore) (k : (List ByteArray) → Option Res) : Option Res :=
  loopK spec_InDoubt_b0 Fuel ((0 : Int), a0.1.1.1, a0.1.1.2.1, a0.1.1.2.2.1, a0.1.1.2.2.2.1, a0.1.1.2.2.2.2, a0.1.2, a0.2.1, a0.2.2, ([] : List ByteArray)) (fun z1 =>
    k z1.2.2.2.2.2.2.2.2.2)

theorem spec_InDoubt_h : ∃ g : dStore → ((List ByteArray) → Option Res) → Option Res, g = spec_InDoubt_d := ⟨_, rfl⟩
def spec_InDoubt_k : dStore → ((List ByteArray) → Option Res) → Option Res := Classical.choose spec_InDoubt_h
theorem spec_InDoubt_e : spec_InDoubt_k = spec_InDoubt_d := Classical.choose_spec spec_InDoubt_h

theorem spec_InDoubt_p (a0 : dStore) : Par (spec_InDoubt_k a0) := by
  rw [spec_InDoubt_e]
  unfold spec_InDoubt_d
  exact ((par_loop spec_InDoubt_bp0 Fuel ((0 : Int), a0.1.1.1, a0.1.1.2.1, a0.1.1.2.2.1, a0.1.1.2.2.2.1, a0.1.1.2.2.2.2, a0.1.2, a0.2.1, a0.2.2, ([] : List ByteArray))).bind fun z1 => (par_ret _))

def impl_InDoubt_b0 (x : ((List dTxn) × Int × Int × (List ByteArray))) (k : ((List dTxn) × Int × Int × (List ByteArray)) ⊕ ((List dTxn) × Int × Int × (List ByteArray)) → Option Res) : Option Res :=
    bif (decide (x.2.2.1 < x.2.1)) then
      if 0 ≤ x.2.2.1 ∧ x.2.2.1 < (x.1.length : Int) then
        if x.2.2.2.length + [(rd (Ty.zero tTxn) x.1 x.2.2.1).2.2.2.2.2.2.2].length ≤ VE.maxLen then
          k (.inl (x.1, x.2.1, (IntKind.wrap .i64 (x.2.2.1 + (1 : Int))), (x.2.2.2 ++ [(rd (Ty.zero tTxn) x.1 x.2.2.1).2.2.2.2.2.2.2])))
        else none
      else none
    else
      k (.inr (x.1, x.2.1, x.2.2.1, x.2.2.2))

theorem impl_InDoubt_bp0 (x : ((List dTxn) × Int × Int × (List ByteArray))) : Par (impl_InDoubt_b0 x) := by
  unfold impl_InDoubt_b0
  exact (par_bif (par_ite (c := 0 ≤ x.2.2.1 ∧ x.2.2.1 < (x.1.length : Int)) (par_ite (c := x.2.2.2.length + [(rd (Ty.zero tTxn) x.1 x.2.2.1).2.2.2.2.2.2.2].length ≤ VE.maxLen) (par_ret _) par_none) par_none) (par_ret _))

def impl_InDoubt_d (a0 : dStore) (k : (List ByteArray) → Option Res) : Option Res :=
  loopK impl_InDoubt_b0 Fuel (a0.1.1.2.2.1, (a0.1.1.2.2.1.length : Int), (0 : Int), ([] : List ByteArray)) (fun z1 =>
    k z1.2.2.2)

theorem impl_InDoubt_h : ∃ g : dStore → ((List ByteArray) → Option Res) → Option Res, g = impl_InDoubt_d := ⟨_, rfl⟩
def impl_InDoubt_k : dStore → ((List ByteArray) → Option Res) → Option Res := Classical.choose impl_InDoubt_h
theorem impl_InDoubt_e : impl_InDoubt_k = impl_InDoubt_d := Classical.choose_spec impl_InDoubt_h

theorem impl_InDoubt_p (a0 : dStore) : Par (impl_InDoubt_k a0) := by
  rw [impl_InDoubt_e]
  unfold impl_InDoubt_d
  exact ((par_loop impl_InDoubt_bp0 Fuel (a0.1.1.2.2.1, (a0.1.1.2.2.1.length : Int), (0 : Int), ([] : List ByteArray))).bind fun z1 => (par_ret _))

def laws_eqStringS_b0 (x : ((List ByteArray) × (List ByteArray) × Bool × Int)) (k : ((List ByteArray) × (List ByteArray) × Bool × Int) ⊕ (((List ByteArray) × (List ByteArray) × Bool × Int) ⊕ ((List ByteArray) × (List ByteArray) × Bool × Int)) → Option Res) : Option Res :=
    bif (decide (x.2.2.2 < (x.1.length : Int))) then
      if 0 ≤ x.2.2.2 ∧ x.2.2.2 < (x.1.length : Int) then
        if 0 ≤ x.2.2.2 ∧ x.2.2.2 < (x.2.1.length : Int) then
          bif (!(strEq (rd (Ty.zero .str) x.1 x.2.2.2) (rd (Ty.zero .str) x.2.1 x.2.2.2))) then
            k (.inr (.inl (x.1, x.2.1, false, x.2.2.2)))
          else
            k (.inl (x.1, x.2.1, x.2.2.1, (IntKind.wrap .i64 (x.2.2.2 + (1 : Int)))))
        else none
      else none
    else
      k (.inr (.inr (x.1, x.2.1, x.2.2.1, x.2.2.2)))

theorem laws_eqStringS_bp0 (x : ((List ByteArray) × (List ByteArray) × Bool × Int)) : Par (laws_eqStringS_b0 x) := by
  unfold laws_eqStringS_b0
  exact (par_bif (par_ite (c := 0 ≤ x.2.2.2 ∧ x.2.2.2 < (x.1.length : Int)) (par_ite (c := 0 ≤ x.2.2.2 ∧ x.2.2.2 < (x.2.1.length : Int)) (par_bif (par_ret _) (par_ret _)) par_none) par_none) (par_ret _))

def laws_eqStringS_d (a0 : (List ByteArray)) (a1 : (List ByteArray)) (k : Bool → Option Res) : Option Res :=
  bif ((a0.length : Int) != (a1.length : Int)) then
    k false
  else
    loopK laws_eqStringS_b0 Fuel (a0, a1, false, (0 : Int)) (Sum.elim (fun z1 =>
      k z1.2.2.1) (fun _ =>
      k true))

theorem laws_eqStringS_h : ∃ g : (List ByteArray) → (List ByteArray) → (Bool → Option Res) → Option Res, g = laws_eqStringS_d := ⟨_, rfl⟩
def laws_eqStringS_k : (List ByteArray) → (List ByteArray) → (Bool → Option Res) → Option Res := Classical.choose laws_eqStringS_h
theorem laws_eqStringS_e : laws_eqStringS_k = laws_eqStringS_d := Classical.choose_spec laws_eqStringS_h

theorem laws_eqStringS_p (a0 : (List ByteArray)) (a1 : (List ByteArray)) : Par (laws_eqStringS_k a0 a1) := by
  rw [laws_eqStringS_e]
  unfold laws_eqStringS_d
  exact (par_bif (par_ret _) ((par_loop laws_eqStringS_bp0 Fuel (a0, a1, false, (0 : Int))).bind2 (fun z1 => (par_ret _)) (fun z2 => (par_ret _))))

def laws_eqVersion_d (a0 : dVersion) (a1 : dVersion) (k : Bool → Option Res) : Option Res :=
  bif (!(strEq a0.1 a1.1)) then
    k false
  else
    bif (!(strEq a0.2.1 a1.2.1)) then
      k false
    else
      bif (!(a0.2.2.1 == a1.2.2.1)) then
        k false
      else
        bif (a0.2.2.2 != a1.2.2.2) then
          k false
        else
          k true

theorem laws_eqVersion_h : ∃ g : dVersion → dVersion → (Bool → Option Res) → Option Res, g = laws_eqVersion_d := ⟨_, rfl⟩
def laws_eqVersion_k : dVersion → dVersion → (Bool → Option Res) → Option Res := Classical.choose laws_eqVersion_h
theorem laws_eqVersion_e : laws_eqVersion_k = laws_eqVersion_d := Classical.choose_spec laws_eqVersion_h

theorem laws_eqVersion_p (a0 : dVersion) (a1 : dVersion) : Par (laws_eqVersion_k a0 a1) := by
  rw [laws_eqVersion_e]
  unfold laws_eqVersion_d
  exact (par_bif (par_ret _) (par_bif (par_ret _) (par_bif (par_ret _) (par_bif (par_ret _) (par_ret _)))))

def laws_eqVersionS_b0 (x : ((List dVersion) × (List dVersion) × Bool × Int)) (k : ((List dVersion) × (List dVersion) × Bool × Int) ⊕ (((List dVersion) × (List dVersion) × Bool × Int) ⊕ ((List dVersion) × (List dVersion) × Bool × Int)) → Option Res) : Option Res :=
    bif (decide (x.2.2.2 < (x.1.length : Int))) then
      if 0 ≤ x.2.2.2 ∧ x.2.2.2 < (x.1.length : Int) then
        if 0 ≤ x.2.2.2 ∧ x.2.2.2 < (x.2.1.length : Int) then
          laws_eqVersion_k (rd (Ty.zero tVersion) x.1 x.2.2.2) (rd (Ty.zero tVersion) x.2.1 x.2.2.2) (fun y3 =>
            bif (!y3) then
              k (.inr (.inl (x.1, x.2.1, false, x.2.2.2)))
            else
              k (.inl (x.1, x.2.1, x.2.2.1, (IntKind.wrap .i64 (x.2.2.2 + (1 : Int))))))
        else none
      else none
    else
      k (.inr (.inr (x.1, x.2.1, x.2.2.1, x.2.2.2)))

theorem laws_eqVersionS_bp0 (x : ((List dVersion) × (List dVersion) × Bool × Int)) : Par (laws_eqVersionS_b0 x) := by
  unfold laws_eqVersionS_b0
  exact (par_bif (par_ite (c := 0 ≤ x.2.2.2 ∧ x.2.2.2 < (x.1.length : Int)) (par_ite (c := 0 ≤ x.2.2.2 ∧ x.2.2.2 < (x.2.1.length : Int)) ((laws_eqVersion_p (rd (Ty.zero tVersion) x.1 x.2.2.2) (rd (Ty.zero tVersion) x.2.1 x.2.2.2)).bind fun y3 => (par_bif (par_ret _) (par_ret _))) par_none) par_none) (par_ret _))

def laws_eqVersionS_d (a0 : (List dVersion)) (a1 : (List dVersion)) (k : Bool → Option Res) : Option Res :=
  bif ((a0.length : Int) != (a1.length : Int)) then
    k false
  else
    loopK laws_eqVersionS_b0 Fuel (a0, a1, false, (0 : Int)) (Sum.elim (fun z1 =>
      k z1.2.2.1) (fun _ =>
      k true))

theorem laws_eqVersionS_h : ∃ g : (List dVersion) → (List dVersion) → (Bool → Option Res) → Option Res, g = laws_eqVersionS_d := ⟨_, rfl⟩
def laws_eqVersionS_k : (List dVersion) → (List dVersion) → (Bool → Option Res) → Option Res := Classical.choose laws_eqVersionS_h
theorem laws_eqVersionS_e : laws_eqVersionS_k = laws_eqVersionS_d := Classical.choose_spec laws_eqVersionS_h

theorem laws_eqVersionS_p (a0 : (List dVersion)) (a1 : (List dVersion)) : Par (laws_eqVersionS_k a0 a1) := by
  rw [laws_eqVersionS_e]
  unfold laws_eqVersionS_d
  exact (par_bif (par_ret _) ((par_loop laws_eqVersionS_bp0 Fuel (a0, a1, false, (0 : Int))).bind2 (fun z1 => (par_ret _)) (fun z2 => (par_ret _))))

def laws_eqRange_d (a0 : dRange) (a1 : dRange) (k : Bool → Option Res) : Option Res :=
  bif (!(strEq a0.1 a1.1)) then
    k false
  else
    bif (!(strEq a0.2 a1.2)) then
      k false
    else
      k true

theorem laws_eqRange_h : ∃ g : dRange → dRange → (Bool → Option Res) → Option Res, g = laws_eqRange_d := ⟨_, rfl⟩
def laws_eqRange_k : dRange → dRange → (Bool → Option Res) → Option Res := Classical.choose laws_eqRange_h
theorem laws_eqRange_e : laws_eqRange_k = laws_eqRange_d := Classical.choose_spec laws_eqRange_h

theorem laws_eqRange_p (a0 : dRange) (a1 : dRange) : Par (laws_eqRange_k a0 a1) := by
  rw [laws_eqRange_e]
  unfold laws_eqRange_d
  exact (par_bif (par_ret _) (par_bif (par_ret _) (par_ret _)))

def laws_eqRangeS_b0 (x : ((List dRange) × (List dRange) × Bool × Int)) (k : ((List dRange) × (List dRange) × Bool × Int) ⊕ (((List dRange) × (List dRange) × Bool × Int) ⊕ ((List dRange) × (List dRange) × Bool × Int)) → Option Res) : Option Res :=
    bif (decide (x.2.2.2 < (x.1.length : Int))) then
      if 0 ≤ x.2.2.2 ∧ x.2.2.2 < (x.1.length : Int) then
        if 0 ≤ x.2.2.2 ∧ x.2.2.2 < (x.2.1.length : Int) then
          laws_eqRange_k (rd (Ty.zero tRange) x.1 x.2.2.2) (rd (Ty.zero tRange) x.2.1 x.2.2.2) (fun y3 =>
            bif (!y3) then
              k (.inr (.inl (x.1, x.2.1, false, x.2.2.2)))
            else
              k (.inl (x.1, x.2.1, x.2.2.1, (IntKind.wrap .i64 (x.2.2.2 + (1 : Int))))))
        else none
      else none
    else
      k (.inr (.inr (x.1, x.2.1, x.2.2.1, x.2.2.2)))

theorem laws_eqRangeS_bp0 (x : ((List dRange) × (List dRange) × Bool × Int)) : Par (laws_eqRangeS_b0 x) := by
  unfold laws_eqRangeS_b0
  exact (par_bif (par_ite (c := 0 ≤ x.2.2.2 ∧ x.2.2.2 < (x.1.length : Int)) (par_ite (c := 0 ≤ x.2.2.2 ∧ x.2.2.2 < (x.2.1.length : Int)) ((laws_eqRange_p (rd (Ty.zero tRange) x.1 x.2.2.2) (rd (Ty.zero tRange) x.2.1 x.2.2.2)).bind fun y3 => (par_bif (par_ret _) (par_ret _))) par_none) par_none) (par_ret _))

def laws_eqRangeS_d (a0 : (List dRange)) (a1 : (List dRange)) (k : Bool → Option Res) : Option Res :=
  bif ((a0.length : Int) != (a1.length : Int)) then
    k false
  else
    loopK laws_eqRangeS_b0 Fuel (a0, a1, false, (0 : Int)) (Sum.elim (fun z1 =>
      k z1.2.2.1) (fun _ =>
      k true))

theorem laws_eqRangeS_h : ∃ g : (List dRange) → (List dRange) → (Bool → Option Res) → Option Res, g = laws_eqRangeS_d := ⟨_, rfl⟩
def laws_eqRangeS_k : (List dRange) → (List dRange) → (Bool → Option Res) → Option Res := Classical.choose laws_eqRangeS_h
theorem laws_eqRangeS_e : laws_eqRangeS_k = laws_eqRangeS_d := Classical.choose_spec laws_eqRangeS_h

theorem laws_eqRangeS_p (a0 : (List dRange)) (a1 : (List dRange)) : Par (laws_eqRangeS_k a0 a1) := by
  rw [laws_eqRangeS_e]
  unfold laws_eqRangeS_d
  exact (par_bif (par_ret _) ((par_loop laws_eqRangeS_bp0 Fuel (a0, a1, false, (0 : Int))).bind2 (fun z1 => (par_ret _)) (fun z2 => (par_ret _))))

def laws_eqWrite_d (a0 : dWrite) (a1 : dWrite) (k : Bool → Option Res) : Option Res :=
  bif (!(strEq a0.1 a1.1)) then
    k false
  else
    bif (!(strEq a0.2.1 a1.2.1)) then
      k false
    else
      bif (!(a0.2.2 == a1.2.2)) then
        k false
      else
        k true

theorem laws_eqWrite_h : ∃ g : dWrite → dWrite → (Bool → Option Res) → Option Res, g = laws_eqWrite_d := ⟨_, rfl⟩
def laws_eqWrite_k : dWrite → dWrite → (Bool → Option Res) → Option Res := Classical.choose laws_eqWrite_h
theorem laws_eqWrite_e : laws_eqWrite_k = laws_eqWrite_d := Classical.choose_spec laws_eqWrite_h

theorem laws_eqWrite_p (a0 : dWrite) (a1 : dWrite) : Par (laws_eqWrite_k a0 a1) := by
  rw [laws_eqWrite_e]
  unfold laws_eqWrite_d
  exact (par_bif (par_ret _) (par_bif (par_ret _) (par_bif (par_ret _) (par_ret _))))

def laws_eqWriteS_b0 (x : ((List dWrite) × (List dWrite) × Bool × Int)) (k : ((List dWrite) × (List dWrite) × Bool × Int) ⊕ (((List dWrite) × (List dWrite) × Bool × Int) ⊕ ((List dWrite) × (List dWrite) × Bool × Int)) → Option Res) : Option Res :=
    bif (decide (x.2.2.2 < (x.1.length : Int))) then
      if 0 ≤ x.2.2.2 ∧ x.2.2.2 < (x.1.length : Int) then
        if 0 ≤ x.2.2.2 ∧ x.2.2.2 < (x.2.1.length : Int) then
          laws_eqWrite_k (rd (Ty.zero tWrite) x.1 x.2.2.2) (rd (Ty.zero tWrite) x.2.1 x.2.2.2) (fun y3 =>
            bif (!y3) then
              k (.inr (.inl (x.1, x.2.1, false, x.2.2.2)))
            else
              k (.inl (x.1, x.2.1, x.2.2.1, (IntKind.wrap .i64 (x.2.2.2 + (1 : Int))))))
        else none
      else none
    else
      k (.inr (.inr (x.1, x.2.1, x.2.2.1, x.2.2.2)))

theorem laws_eqWriteS_bp0 (x : ((List dWrite) × (List dWrite) × Bool × Int)) : Par (laws_eqWriteS_b0 x) := by
  unfold laws_eqWriteS_b0
  exact (par_bif (par_ite (c := 0 ≤ x.2.2.2 ∧ x.2.2.2 < (x.1.length : Int)) (par_ite (c := 0 ≤ x.2.2.2 ∧ x.2.2.2 < (x.2.1.length : Int)) ((laws_eqWrite_p (rd (Ty.zero tWrite) x.1 x.2.2.2) (rd (Ty.zero tWrite) x.2.1 x.2.2.2)).bind fun y3 => (par_bif (par_ret _) (par_ret _))) par_none) par_none) (par_ret _))

def laws_eqWriteS_d (a0 : (List dWrite)) (a1 : (List dWrite)) (k : Bool → Option Res) : Option Res :=
  bif ((a0.length : Int) != (a1.length : Int)) then
    k false
  else
    loopK laws_eqWriteS_b0 Fuel (a0, a1, false, (0 : Int)) (Sum.elim (fun z1 =>
      k z1.2.2.1) (fun _ =>
      k true))

theorem laws_eqWriteS_h : ∃ g : (List dWrite) → (List dWrite) → (Bool → Option Res) → Option Res, g = laws_eqWriteS_d := ⟨_, rfl⟩
def laws_eqWriteS_k : (List dWrite) → (List dWrite) → (Bool → Option Res) → Option Res := Classical.choose laws_eqWriteS_h
theorem laws_eqWriteS_e : laws_eqWriteS_k = laws_eqWriteS_d := Classical.choose_spec laws_eqWriteS_h

theorem laws_eqWriteS_p (a0 : (List dWrite)) (a1 : (List dWrite)) : Par (laws_eqWriteS_k a0 a1) := by
  rw [laws_eqWriteS_e]
  unfold laws_eqWriteS_d
  exact (par_bif (par_ret _) ((par_loop laws_eqWriteS_bp0 Fuel (a0, a1, false, (0 : Int))).bind2 (fun z1 => (par_ret _)) (fun z2 => (par_ret _))))

def laws_eqTxn_d (a0 : dTxn) (a1 : dTxn) (k : Bool → Option Res) : Option Res :=
  bif (a0.1 != a1.1) then
    k false
  else
    bif (a0.2.1 != a1.2.1) then
      k false
    else
      bif (a0.2.2.1 != a1.2.2.1) then
        k false
      else
        bif (a0.2.2.2.1 != a1.2.2.2.1) then
          k false
        else
          laws_eqRangeS_k a0.2.2.2.2.1 a1.2.2.2.2.1 (fun y1 =>
            bif (!y1) then
              k false
            else
              laws_eqWriteS_k a0.2.2.2.2.2.1 a1.2.2.2.2.2.1 (fun y2 =>
                bif (!y2) then
                  k false
                else
                  bif (!(a0.2.2.2.2.2.2.1 == a1.2.2.2.2.2.2.1)) then
                    k false
                  else
                    bif (!(strEq a0.2.2.2.2.2.2.2 a1.2.2.2.2.2.2.2)) then
                      k false
                    else
                      k true))

theorem laws_eqTxn_h : ∃ g : dTxn → dTxn → (Bool → Option Res) → Option Res, g = laws_eqTxn_d := ⟨_, rfl⟩
def laws_eqTxn_k : dTxn → dTxn → (Bool → Option Res) → Option Res := Classical.choose laws_eqTxn_h
theorem laws_eqTxn_e : laws_eqTxn_k = laws_eqTxn_d := Classical.choose_spec laws_eqTxn_h

theorem laws_eqTxn_p (a0 : dTxn) (a1 : dTxn) : Par (laws_eqTxn_k a0 a1) := by
  rw [laws_eqTxn_e]
  unfold laws_eqTxn_d
  exact (par_bif (par_ret _) (par_bif (par_ret _) (par_bif (par_ret _) (par_bif (par_ret _) ((laws_eqRangeS_p a0.2.2.2.2.1 a1.2.2.2.2.1).bind fun y1 => (par_bif (par_ret _) ((laws_eqWriteS_p a0.2.2.2.2.2.1 a1.2.2.2.2.2.1).bind fun y2 => (par_bif (par_ret _) (par_bif (par_ret _) (par_bif (par_ret _) (par_ret _)))))))))))

def laws_eqTxnS_b0 (x : ((List dTxn) × (List dTxn) × Bool × Int)) (k : ((List dTxn) × (List dTxn) × Bool × Int) ⊕ (((List dTxn) × (List dTxn) × Bool × Int) ⊕ ((List dTxn) × (List dTxn) × Bool × Int)) → Option Res) : Option Res :=
    bif (decide (x.2.2.2 < (x.1.length : Int))) then
      if 0 ≤ x.2.2.2 ∧ x.2.2.2 < (x.1.length : Int) then
        if 0 ≤ x.2.2.2 ∧ x.2.2.2 < (x.2.1.length : Int) then
          laws_eqTxn_k (rd (Ty.zero tTxn) x.1 x.2.2.2) (rd (Ty.zero tTxn) x.2.1 x.2.2.2) (fun y3 =>
            bif (!y3) then
              k (.inr (.inl (x.1, x.2.1, false, x.2.2.2)))
            else
              k (.inl (x.1, x.2.1, x.2.2.1, (IntKind.wrap .i64 (x.2.2.2 + (1 : Int))))))
        else none
      else none
    else
      k (.inr (.inr (x.1, x.2.1, x.2.2.1, x.2.2.2)))

theorem laws_eqTxnS_bp0 (x : ((List dTxn) × (List dTxn) × Bool × Int)) : Par (laws_eqTxnS_b0 x) := by
  unfold laws_eqTxnS_b0
  exact (par_bif (par_ite (c := 0 ≤ x.2.2.2 ∧ x.2.2.2 < (x.1.length : Int)) (par_ite (c := 0 ≤ x.2.2.2 ∧ x.2.2.2 < (x.2.1.length : Int)) ((laws_eqTxn_p (rd (Ty.zero tTxn) x.1 x.2.2.2) (rd (Ty.zero tTxn) x.2.1 x.2.2.2)).bind fun y3 => (par_bif (par_ret _) (par_ret _))) par_none) par_none) (par_ret _))

def laws_eqTxnS_d (a0 : (List dTxn)) (a1 : (List dTxn)) (k : Bool → Option Res) : Option Res :=
  bif ((a0.length : Int) != (a1.length : Int)) then
    k false
  else
    loopK laws_eqTxnS_b0 Fuel (a0, a1, false, (0 : Int)) (Sum.elim (fun z1 =>
      k z1.2.2.1) (fun _ =>
      k true))

theorem laws_eqTxnS_h : ∃ g : (List dTxn) → (List dTxn) → (Bool → Option Res) → Option Res, g = laws_eqTxnS_d := ⟨_, rfl⟩
def laws_eqTxnS_k : (List dTxn) → (List dTxn) → (Bool → Option Res) → Option Res := Classical.choose laws_eqTxnS_h
theorem laws_eqTxnS_e : laws_eqTxnS_k = laws_eqTxnS_d := Classical.choose_spec laws_eqTxnS_h

theorem laws_eqTxnS_p (a0 : (List dTxn)) (a1 : (List dTxn)) : Par (laws_eqTxnS_k a0 a1) := by
  rw [laws_eqTxnS_e]
  unfold laws_eqTxnS_d
  exact (par_bif (par_ret _) ((par_loop laws_eqTxnS_bp0 Fuel (a0, a1, false, (0 : Int))).bind2 (fun z1 => (par_ret _)) (fun z2 => (par_ret _))))

def laws_eqBase_d (a0 : dBase) (a1 : dBase) (k : Bool → Option Res) : Option Res :=
  laws_eqVersionS_k a0.1 a1.1 (fun y1 =>
    bif (!y1) then
      k false
    else
      laws_eqTxnS_k a0.2.1 a1.2.1 (fun y2 =>
        bif (!y2) then
          k false
        else
          laws_eqTxnS_k a0.2.2.1 a1.2.2.1 (fun y3 =>
            bif (!y3) then
              k false
            else
              bif (a0.2.2.2.1 != a1.2.2.2.1) then
                k false
              else
                bif (a0.2.2.2.2 != a1.2.2.2.2) then
                  k false
                else
                  k true)))

theorem laws_eqBase_h : ∃ g : dBase → dBase → (Bool → Option Res) → Option Res, g = laws_eqBase_d := ⟨_, rfl⟩
def laws_eqBase_k : dBase → dBase → (Bool → Option Res) → Option Res := Classical.choose laws_eqBase_h
theorem laws_eqBase_e : laws_eqBase_k = laws_eqBase_d := Classical.choose_spec laws_eqBase_h

theorem laws_eqBase_p (a0 : dBase) (a1 : dBase) : Par (laws_eqBase_k a0 a1) := by
  rw [laws_eqBase_e]
  unfold laws_eqBase_d
  exact ((laws_eqVersionS_p a0.1 a1.1).bind fun y1 => (par_bif (par_ret _) ((laws_eqTxnS_p a0.2.1 a1.2.1).bind fun y2 => (par_bif (par_ret _) ((laws_eqTxnS_p a0.2.2.1 a1.2.2.1).bind fun y3 => (par_bif (par_ret _) (par_bif (par_ret _) (par_bif (par_ret _) (par_ret _)))))))))

def laws_eqEngine_d (a0 : dEngine) (a1 : dEngine) (k : Bool → Option Res) : Option Res :=
  laws_eqBase_k a0.1 a1.1 (fun y1 =>
    bif (!y1) then
      k false
    else
      laws_eqTxnS_k a0.2 a1.2 (fun y2 =>
        bif (!y2) then
          k false
        else
          k true))

theorem laws_eqEngine_h : ∃ g : dEngine → dEngine → (Bool → Option Res) → Option Res, g = laws_eqEngine_d := ⟨_, rfl⟩
def laws_eqEngine_k : dEngine → dEngine → (Bool → Option Res) → Option Res := Classical.choose laws_eqEngine_h
theorem laws_eqEngine_e : laws_eqEngine_k = laws_eqEngine_d := Classical.choose_spec laws_eqEngine_h

theorem laws_eqEngine_p (a0 : dEngine) (a1 : dEngine) : Par (laws_eqEngine_k a0 a1) := by
  rw [laws_eqEngine_e]
  unfold laws_eqEngine_d
  exact ((laws_eqBase_p a0.1 a1.1).bind fun y1 => (par_bif (par_ret _) ((laws_eqTxnS_p a0.2 a1.2).bind fun y2 => (par_bif (par_ret _) (par_ret _)))))

def laws_eqPut_d (a0 : dPut) (a1 : dPut) (k : Bool → Option Res) : Option Res :=
  bif (a0.1 != a1.1) then
    k false
  else
    bif (!(strEq a0.2 a1.2)) then
      k false
    else
      k true

theorem laws_eqPut_h : ∃ g : dPut → dPut → (Bool → Option Res) → Option Res, g = laws_eqPut_d := ⟨_, rfl⟩
def laws_eqPut_k : dPut → dPut → (Bool → Option Res) → Option Res := Classical.choose laws_eqPut_h
theorem laws_eqPut_e : laws_eqPut_k = laws_eqPut_d := Classical.choose_spec laws_eqPut_h

theorem laws_eqPut_p (a0 : dPut) (a1 : dPut) : Par (laws_eqPut_k a0 a1) := by
  rw [laws_eqPut_e]
  unfold laws_eqPut_d
  exact (par_bif (par_ret _) (par_bif (par_ret _) (par_ret _)))

def laws_eqPutS_b0 (x : ((List dPut) × (List dPut) × Bool × Int)) (k : ((List dPut) × (List dPut) × Bool × Int) ⊕ (((List dPut) × (List dPut) × Bool × Int) ⊕ ((List dPut) × (List dPut) × Bool × Int)) → Option Res) : Option Res :=
    bif (decide (x.2.2.2 < (x.1.length : Int))) then
      if 0 ≤ x.2.2.2 ∧ x.2.2.2 < (x.1.length : Int) then
        if 0 ≤ x.2.2.2 ∧ x.2.2.2 < (x.2.1.length : Int) then
          laws_eqPut_k (rd (Ty.zero tPut) x.1 x.2.2.2) (rd (Ty.zero tPut) x.2.1 x.2.2.2) (fun y3 =>
            bif (!y3) then
              k (.inr (.inl (x.1, x.2.1, false, x.2.2.2)))
            else
              k (.inl (x.1, x.2.1, x.2.2.1, (IntKind.wrap .i64 (x.2.2.2 + (1 : Int))))))
        else none
      else none
    else
      k (.inr (.inr (x.1, x.2.1, x.2.2.1, x.2.2.2)))

theorem laws_eqPutS_bp0 (x : ((List dPut) × (List dPut) × Bool × Int)) : Par (laws_eqPutS_b0 x) := by
  unfold laws_eqPutS_b0
  exact (par_bif (par_ite (c := 0 ≤ x.2.2.2 ∧ x.2.2.2 < (x.1.length : Int)) (par_ite (c := 0 ≤ x.2.2.2 ∧ x.2.2.2 < (x.2.1.length : Int)) ((laws_eqPut_p (rd (Ty.zero tPut) x.1 x.2.2.2) (rd (Ty.zero tPut) x.2.1 x.2.2.2)).bind fun y3 => (par_bif (par_ret _) (par_ret _))) par_none) par_none) (par_ret _))

def laws_eqPutS_d (a0 : (List dPut)) (a1 : (List dPut)) (k : Bool → Option Res) : Option Res :=
  bif ((a0.length : Int) != (a1.length : Int)) then
    k false
  else
    loopK laws_eqPutS_b0 Fuel (a0, a1, false, (0 : Int)) (Sum.elim (fun z1 =>
      k z1.2.2.1) (fun _ =>
      k true))

theorem laws_eqPutS_h : ∃ g : (List dPut) → (List dPut) → (Bool → Option Res) → Option Res, g = laws_eqPutS_d := ⟨_, rfl⟩
def laws_eqPutS_k : (List dPut) → (List dPut) → (Bool → Option Res) → Option Res := Classical.choose laws_eqPutS_h
theorem laws_eqPutS_e : laws_eqPutS_k = laws_eqPutS_d := Classical.choose_spec laws_eqPutS_h

theorem laws_eqPutS_p (a0 : (List dPut)) (a1 : (List dPut)) : Par (laws_eqPutS_k a0 a1) := by
  rw [laws_eqPutS_e]
  unfold laws_eqPutS_d
  exact (par_bif (par_ret _) ((par_loop laws_eqPutS_bp0 Fuel (a0, a1, false, (0 : Int))).bind2 (fun z1 => (par_ret _)) (fun z2 => (par_ret _))))

def laws_eqDisk_d (a0 : dDisk) (a1 : dDisk) (k : Bool → Option Res) : Option Res :=
  laws_eqStringS_k a0.1 a1.1 (fun y1 =>
    bif (!y1) then
      k false
    else
      laws_eqPutS_k a0.2 a1.2 (fun y2 =>
        bif (!y2) then
          k false
        else
          k true))

theorem laws_eqDisk_h : ∃ g : dDisk → dDisk → (Bool → Option Res) → Option Res, g = laws_eqDisk_d := ⟨_, rfl⟩
def laws_eqDisk_k : dDisk → dDisk → (Bool → Option Res) → Option Res := Classical.choose laws_eqDisk_h
theorem laws_eqDisk_e : laws_eqDisk_k = laws_eqDisk_d := Classical.choose_spec laws_eqDisk_h

theorem laws_eqDisk_p (a0 : dDisk) (a1 : dDisk) : Par (laws_eqDisk_k a0 a1) := by
  rw [laws_eqDisk_e]
  unfold laws_eqDisk_d
  exact ((laws_eqStringS_p a0.1 a1.1).bind fun y1 => (par_bif (par_ret _) ((laws_eqPutS_p a0.2 a1.2).bind fun y2 => (par_bif (par_ret _) (par_ret _)))))

def laws_eqStore_d (a0 : dStore) (a1 : dStore) (k : Bool → Option Res) : Option Res :=
  laws_eqEngine_k a0.1 a1.1 (fun y1 =>
    bif (!y1) then
      k false
    else
      laws_eqDisk_k a0.2 a1.2 (fun y2 =>
        bif (!y2) then
          k false
        else
          k true))

theorem laws_eqStore_h : ∃ g : dStore → dStore → (Bool → Option Res) → Option Res, g = laws_eqStore_d := ⟨_, rfl⟩
def laws_eqStore_k : dStore → dStore → (Bool → Option Res) → Option Res := Classical.choose laws_eqStore_h
theorem laws_eqStore_e : laws_eqStore_k = laws_eqStore_d := Classical.choose_spec laws_eqStore_h

theorem laws_eqStore_p (a0 : dStore) (a1 : dStore) : Par (laws_eqStore_k a0 a1) := by
  rw [laws_eqStore_e]
  unfold laws_eqStore_d
  exact ((laws_eqEngine_p a0.1 a1.1).bind fun y1 => (par_bif (par_ret _) ((laws_eqDisk_p a0.2 a1.2).bind fun y2 => (par_bif (par_ret _) (par_ret _)))))

def laws_markText_b0 (x : (Int × ByteArray)) (k : (Int × ByteArray) ⊕ (Int × ByteArray) → Option Res) : Option Res :=
    bif (decide (x.1 > (0 : Int))) then
      if (bytesOf [(IntKind.wrap .u8 (IntKind.wrap .i64 ((48 : Int) + (x.1.tmod (10 : Int)))))]).size + x.2.size ≤ 1099511627776 then
        k (.inl ((IntKind.wrap .i64 (x.1.tdiv (10 : Int))), ((bytesOf [(IntKind.wrap .u8 (IntKind.wrap .i64 ((48 : Int) + (x.1.tmod (10 : Int)))))]) ++ x.2)))
      else none
    else
      k (.inr (x.1, x.2))

theorem laws_markText_bp0 (x : (Int × ByteArray)) : Par (laws_markText_b0 x) := by
  unfold laws_markText_b0
  exact (par_bif (par_ite (c := (bytesOf [(IntKind.wrap .u8 (IntKind.wrap .i64 ((48 : Int) + (x.1.tmod (10 : Int)))))]).size + x.2.size ≤ 1099511627776) (par_ret _) par_none) (par_ret _))

def laws_markText_d (a0 : Int) (k : ByteArray → Option Res) : Option Res :=
  bif (decide (a0 ≤ (0 : Int))) then
    k (⟨#[109, 48]⟩ : ByteArray)
  else
    loopK laws_markText_b0 Fuel (a0, (⟨#[]⟩ : ByteArray)) (fun z1 =>
      if (⟨#[109]⟩ : ByteArray).size + z1.2.size ≤ 1099511627776 then
        k ((⟨#[109]⟩ : ByteArray) ++ z1.2)
      else none)

theorem laws_markText_h : ∃ g : Int → (ByteArray → Option Res) → Option Res, g = laws_markText_d := ⟨_, rfl⟩
def laws_markText_k : Int → (ByteArray → Option Res) → Option Res := Classical.choose laws_markText_h
theorem laws_markText_e : laws_markText_k = laws_markText_d := Classical.choose_spec laws_markText_h

theorem laws_markText_p (a0 : Int) : Par (laws_markText_k a0) := by
  rw [laws_markText_e]
  unfold laws_markText_d
  exact (par_bif (par_ret _) ((par_loop laws_markText_bp0 Fuel (a0, (⟨#[]⟩ : ByteArray))).bind fun z1 => (par_ite (c := (⟨#[109]⟩ : ByteArray).size + z1.2.size ≤ 1099511627776) (par_ret _) par_none)))

def laws_markVersionS_vo_b0 (x : (Int × Int × (List dVersion))) (k : (Int × Int × (List dVersion)) ⊕ (Int × Int × (List dVersion)) → Option Res) : Option Res :=
    bif (decide (x.2.1 < (x.2.2.length : Int))) then
      laws_markText_k x.1 (fun y2 =>
        if 0 ≤ x.2.1 ∧ x.2.1 < (x.2.2.length : Int) then
          laws_markText_k (IntKind.wrap .i64 (x.1 + (1 : Int))) (fun y3 =>
            if 0 ≤ x.2.1 ∧ x.2.1 < ((x.2.2.set x.2.1.toNat (y2, (x.2.2.getD x.2.1.toNat (Ty.zero tVersion)).2)).length : Int) then
              if 0 ≤ x.2.1 ∧ x.2.1 < (((x.2.2.set x.2.1.toNat (y2, (x.2.2.getD x.2.1.toNat (Ty.zero tVersion)).2)).set x.2.1.toNat (((x.2.2.set x.2.1.toNat (y2, (x.2.2.getD x.2.1.toNat (Ty.zero tVersion)).2)).getD x.2.1.toNat (Ty.zero tVersion)).1, (y3, ((x.2.2.set x.2.1.toNat (y2, (x.2.2.getD x.2.1.toNat (Ty.zero tVersion)).2)).getD x.2.1.toNat (Ty.zero tVersion)).2.2))).length : Int) then
                if 0 ≤ x.2.1 ∧ x.2.1 < ((((x.2.2.set x.2.1.toNat (y2, (x.2.2.getD x.2.1.toNat (Ty.zero tVersion)).2)).set x.2.1.toNat (((x.2.2.set x.2.1.toNat (y2, (x.2.2.getD x.2.1.toNat (Ty.zero tVersion)).2)).getD x.2.1.toNat (Ty.zero tVersion)).1, (y3, ((x.2.2.set x.2.1.toNat (y2, (x.2.2.getD x.2.1.toNat (Ty.zero tVersion)).2)).getD x.2.1.toNat (Ty.zero tVersion)).2.2))).set x.2.1.toNat ((((x.2.2.set x.2.1.toNat (y2, (x.2.2.getD x.2.1.toNat (Ty.zero tVersion)).2)).set x.2.1.toNat (((x.2.2.set x.2.1.toNat (y2, (x.2.2.getD x.2.1.toNat (Ty.zero tVersion)).2)).getD x.2.1.toNat (Ty.zero tVersion)).1, (y3, ((x.2.2.set x.2.1.toNat (y2, (x.2.2.getD x.2.1.toNat (Ty.zero tVersion)).2)).getD x.2.1.toNat (Ty.zero tVersion)).2.2))).getD x.2.1.toNat (Ty.zero tVersion)).1, ((((x.2.2.set x.2.1.toNat (y2, (x.2.2.getD x.2.1.toNat (Ty.zero tVersion)).2)).set x.2.1.toNat (((x.2.2.set x.2.1.toNat (y2, (x.2.2.getD x.2.1.toNat (Ty.zero tVersion)).2)).getD x.2.1.toNat (Ty.zero tVersion)).1, (y3, ((x.2.2.set x.2.1.toNat (y2, (x.2.2.getD x.2.1.toNat (Ty.zero tVersion)).2)).getD x.2.1.toNat (Ty.zero tVersion)).2.2))).getD x.2.1.toNat (Ty.zero tVersion)).2.1, ((((IntKind.wrap .i64 ((IntKind.wrap .i64 (x.1 + (1 : Int))) + (1 : Int))).tmod (3 : Int)) == (0 : Int)), (((x.2.2.set x.2.1.toNat (y2, (x.2.2.getD x.2.1.toNat (Ty.zero tVersion)).2)).set x.2.1.toNat (((x.2.2.set x.2.1.toNat (y2, (x.2.2.getD x.2.1.toNat (Ty.zero tVersion)).2)).getD x.2.1.toNat (Ty.zero tVersion)).1, (y3, ((x.2.2.set x.2.1.toNat (y2, (x.2.2.getD x.2.1.toNat (Ty.zero tVersion)).2)).getD x.2.1.toNat (Ty.zero tVersion)).2.2))).getD x.2.1.toNat (Ty.zero tVersion)).2.2.2)))).length : Int) then
                  k (.inl ((IntKind.wrap .i64 ((IntKind.wrap .i64 ((IntKind.wrap .i64 ((IntKind.wrap .i64 (x.1 + (1 : Int))) + (1 : Int))) + (1 : Int))) + (1 : Int))), (IntKind.wrap .i64 (x.2.1 + (1 : Int))), ((((x.2.2.set x.2.1.toNat (y2, (x.2.2.getD x.2.1.toNat (Ty.zero tVersion)).2)).set x.2.1.toNat (((x.2.2.set x.2.1.toNat (y2, (x.2.2.getD x.2.1.toNat (Ty.zero tVersion)).2)).getD x.2.1.toNat (Ty.zero tVersion)).1, (y3, ((x.2.2.set x.2.1.toNat (y2, (x.2.2.getD x.2.1.toNat (Ty.zero tVersion)).2)).getD x.2.1.toNat (Ty.zero tVersion)).2.2))).set x.2.1.toNat ((((x.2.2.set x.2.1.toNat (y2, (x.2.2.getD x.2.1.toNat (Ty.zero tVersion)).2)).set x.2.1.toNat (((x.2.2.set x.2.1.toNat (y2, (x.2.2.getD x.2.1.toNat (Ty.zero tVersion)).2)).getD x.2.1.toNat (Ty.zero tVersion)).1, (y3, ((x.2.2.set x.2.1.toNat (y2, (x.2.2.getD x.2.1.toNat (Ty.zero tVersion)).2)).getD x.2.1.toNat (Ty.zero tVersion)).2.2))).getD x.2.1.toNat (Ty.zero tVersion)).1, ((((x.2.2.set x.2.1.toNat (y2, (x.2.2.getD x.2.1.toNat (Ty.zero tVersion)).2)).set x.2.1.toNat (((x.2.2.set x.2.1.toNat (y2, (x.2.2.getD x.2.1.toNat (Ty.zero tVersion)).2)).getD x.2.1.toNat (Ty.zero tVersion)).1, (y3, ((x.2.2.set x.2.1.toNat (y2, (x.2.2.getD x.2.1.toNat (Ty.zero tVersion)).2)).getD x.2.1.toNat (Ty.zero tVersion)).2.2))).getD x.2.1.toNat (Ty.zero tVersion)).2.1, ((((IntKind.wrap .i64 ((IntKind.wrap .i64 (x.1 + (1 : Int))) + (1 : Int))).tmod (3 : Int)) == (0 : Int)), (((x.2.2.set x.2.1.toNat (y2, (x.2.2.getD x.2.1.toNat (Ty.zero tVersion)).2)).set x.2.1.toNat (((x.2.2.set x.2.1.toNat (y2, (x.2.2.getD x.2.1.toNat (Ty.zero tVersion)).2)).getD x.2.1.toNat (Ty.zero tVersion)).1, (y3, ((x.2.2.set x.2.1.toNat (y2, (x.2.2.getD x.2.1.toNat (Ty.zero tVersion)).2)).getD x.2.1.toNat (Ty.zero tVersion)).2.2))).getD x.2.1.toNat (Ty.zero tVersion)).2.2.2)))).set x.2.1.toNat (((((x.2.2.set x.2.1.toNat (y2, (x.2.2.getD x.2.1.toNat (Ty.zero tVersion)).2)).set x.2.1.toNat (((x.2.2.set x.2.1.toNat (y2, (x.2.2.getD x.2.1.toNat (Ty.zero tVersion)).2)).getD x.2.1.toNat (Ty.zero tVersion)).1, (y3, ((x.2.2.set x.2.1.toNat (y2, (x.2.2.getD x.2.1.toNat (Ty.zero tVersion)).2)).getD x.2.1.toNat (Ty.zero tVersion)).2.2))).set x.2.1.toNat ((((x.2.2.set x.2.1.toNat (y2, (x.2.2.getD x.2.1.toNat (Ty.zero tVersion)).2)).set x.2.1.toNat (((x.2.2.set x.2.1.toNat (y2, (x.2.2.getD x.2.1.toNat (Ty.zero tVersion)).2)).getD x.2.1.toNat (Ty.zero tVersion)).1, (y3, ((x.2.2.set x.2.1.toNat (y2, (x.2.2.getD x.2.1.toNat (Ty.zero tVersion)).2)).getD x.2.1.toNat (Ty.zero tVersion)).2.2))).getD x.2.1.toNat (Ty.zero tVersion)).1, ((((x.2.2.set x.2.1.toNat (y2, (x.2.2.getD x.2.1.toNat (Ty.zero tVersion)).2)).set x.2.1.toNat (((x.2.2.set x.2.1.toNat (y2, (x.2.2.getD x.2.1.toNat (Ty.zero tVersion)).2)).getD x.2.1.toNat (Ty.zero tVersion)).1, (y3, ((x.2.2.set x.2.1.toNat (y2, (x.2.2.getD x.2.1.toNat (Ty.zero tVersion)).2)).getD x.2.1.toNat (Ty.zero tVersion)).2.2))).getD x.2.1.toNat (Ty.zero tVersion)).2.1, ((((IntKind.wrap .i64 ((IntKind.wrap .i64 (x.1 + (1 : Int))) + (1 : Int))).tmod (3 : Int)) == (0 : Int)), (((x.2.2.set x.2.1.toNat (y2, (x.2.2.getD x.2.1.toNat (Ty.zero tVersion)).2)).set x.2.1.toNat (((x.2.2.set x.2.1.toNat (y2, (x.2.2.getD x.2.1.toNat (Ty.zero tVersion)).2)).getD x.2.1.toNat (Ty.zero tVersion)).1, (y3, ((x.2.2.set x.2.1.toNat (y2, (x.2.2.getD x.2.1.toNat (Ty.zero tVersion)).2)).getD x.2.1.toNat (Ty.zero tVersion)).2.2))).getD x.2.1.toNat (Ty.zero tVersion)).2.2.2)))).getD x.2.1.toNat (Ty.zero tVersion)).1, (((((x.2.2.set x.2.1.toNat (y2, (x.2.2.getD x.2.1.toNat (Ty.zero tVersion)).2)).set x.2.1.toNat (((x.2.2.set x.2.1.toNat (y2, (x.2.2.getD x.2.1.toNat (Ty.zero tVersion)).2)).getD x.2.1.toNat (Ty.zero tVersion)).1, (y3, ((x.2.2.set x.2.1.toNat (y2, (x.2.2.getD x.2.1.toNat (Ty.zero tVersion)).2)).getD x.2.1.toNat (Ty.zero tVersion)).2.2))).set x.2.1.toNat ((((x.2.2.set x.2.1.toNat (y2, (x.2.2.getD x.2.1.toNat (Ty.zero tVersion)).2)).set x.2.1.toNat (((x.2.2.set x.2.1.toNat (y2, (x.2.2.getD x.2.1.toNat (Ty.zero tVersion)).2)).getD x.2.1.toNat (Ty.zero tVersion)).1, (y3, ((x.2.2.set x.2.1.toNat (y2, (x.2.2.getD x.2.1.toNat (Ty.zero tVersion)).2)).getD x.2.1.toNat (Ty.zero tVersion)).2.2))).getD x.2.1.toNat (Ty.zero tVersion)).1, ((((x.2.2.set x.2.1.toNat (y2, (x.2.2.getD x.2.1.toNat (Ty.zero tVersion)).2)).set x.2.1.toNat (((x.2.2.set x.2.1.toNat (y2, (x.2.2.getD x.2.1.toNat (Ty.zero tVersion)).2)).getD x.2.1.toNat (Ty.zero tVersion)).1, (y3, ((x.2.2.set x.2.1.toNat (y2, (x.2.2.getD x.2.1.toNat (Ty.zero tVersion)).2)).getD x.2.1.toNat (Ty.zero tVersion)).2.2))).getD x.2.1.toNat (Ty.zero tVersion)).2.1, ((((IntKind.wrap .i64 ((IntKind.wrap .i64 (x.1 + (1 : Int))) + (1 : Int))).tmod (3 : Int)) == (0 : Int)), (((x.2.2.set x.2.1.toNat (y2, (x.2.2.getD x.2.1.toNat (Ty.zero tVersion)).2)).set x.2.1.toNat (((x.2.2.set x.2.1.toNat (y2, (x.2.2.getD x.2.1.toNat (Ty.zero tVersion)).2)).getD x.2.1.toNat (Ty.zero tVersion)).1, (y3, ((x.2.2.set x.2.1.toNat (y2, (x.2.2.getD x.2.1.toNat (Ty.zero tVersion)).2)).getD x.2.1.toNat (Ty.zero tVersion)).2.2))).getD x.2.1.toNat (Ty.zero tVersion)).2.2.2)))).getD x.2.1.toNat (Ty.zero tVersion)).2.1, (((((x.2.2.set x.2.1.toNat (y2, (x.2.2.getD x.2.1.toNat (Ty.zero tVersion)).2)).set x.2.1.toNat (((x.2.2.set x.2.1.toNat (y2, (x.2.2.getD x.2.1.toNat (Ty.zero tVersion)).2)).getD x.2.1.toNat (Ty.zero tVersion)).1, (y3, ((x.2.2.set x.2.1.toNat (y2, (x.2.2.getD x.2.1.toNat (Ty.zero tVersion)).2)).getD x.2.1.toNat (Ty.zero tVersion)).2.2))).set x.2.1.toNat ((((x.2.2.set x.2.1.toNat (y2, (x.2.2.getD x.2.1.toNat (Ty.zero tVersion)).2)).set x.2.1.toNat (((x.2.2.set x.2.1.toNat (y2, (x.2.2.getD x.2.1.toNat (Ty.zero tVersion)).2)).getD x.2.1.toNat (Ty.zero tVersion)).1, (y3, ((x.2.2.set x.2.1.toNat (y2, (x.2.2.getD x.2.1.toNat (Ty.zero tVersion)).2)).getD x.2.1.toNat (Ty.zero tVersion)).2.2))).getD x.2.1.toNat (Ty.zero tVersion)).1, ((((x.2.2.set x.2.1.toNat (y2, (x.2.2.getD x.2.1.toNat (Ty.zero tVersion)).2)).set x.2.1.toNat (((x.2.2.set x.2.1.toNat (y2, (x.2.2.getD x.2.1.toNat (Ty.zero tVersion)).2)).getD x.2.1.toNat (Ty.zero tVersion)).1, (y3, ((x.2.2.set x.2.1.toNat (y2, (x.2.2.getD x.2.1.toNat (Ty.zero tVersion)).2)).getD x.2.1.toNat (Ty.zero tVersion)).2.2))).getD x.2.1.toNat (Ty.zero tVersion)).2.1, ((((IntKind.wrap .i64 ((IntKind.wrap .i64 (x.1 + (1 : Int))) + (1 : Int))).tmod (3 : Int)) == (0 : Int)), (((x.2.2.set x.2.1.toNat (y2, (x.2.2.getD x.2.1.toNat (Ty.zero tVersion)).2)).set x.2.1.toNat (((x.2.2.set x.2.1.toNat (y2, (x.2.2.getD x.2.1.toNat (Ty.zero tVersion)).2)).getD x.2.1.toNat (Ty.zero tVersion)).1, (y3, ((x.2.2.set x.2.1.toNat (y2, (x.2.2.getD x.2.1.toNat (Ty.zero tVersion)).2)).getD x.2.1.toNat (Ty.zero tVersion)).2.2))).getD x.2.1.toNat (Ty.zero tVersion)).2.2.2)))).getD x.2.1.toNat (Ty.zero tVersion)).2.2.1, (IntKind.wrap .i64 ((IntKind.wrap .i64 ((IntKind.wrap .i64 (x.1 + (1 : Int))) + (1 : Int))) + (1 : Int)))))))))
                else none
              else none
            else none)
        else none)
    else
      k (.inr (x.1, x.2.1, x.2.2))

theorem laws_markVersionS_vo_bp0 (x : (Int × Int × (List dVersion))) : Par (laws_markVersionS_vo_b0 x) := by
  unfold laws_markVersionS_vo_b0
  exact (par_bif ((laws_markText_p x.1).bind fun y2 => (par_ite (c := 0 ≤ x.2.1 ∧ x.2.1 < (x.2.2.length : Int)) ((laws_markText_p (IntKind.wrap .i64 (x.1 + (1 : Int)))).bind fun y3 => (par_ite (c := 0 ≤ x.2.1 ∧ x.2.1 < ((x.2.2.set x.2.1.toNat (y2, (x.2.2.getD x.2.1.toNat (Ty.zero tVersion)).2)).length : Int)) (par_ite (c := 0 ≤ x.2.1 ∧ x.2.1 < (((x.2.2.set x.2.1.toNat (y2, (x.2.2.getD x.2.1.toNat (Ty.zero tVersion)).2)).set x.2.1.toNat (((x.2.2.set x.2.1.toNat (y2, (x.2.2.getD x.2.1.toNat (Ty.zero tVersion)).2)).getD x.2.1.toNat (Ty.zero tVersion)).1, (y3, ((x.2.2.set x.2.1.toNat (y2, (x.2.2.getD x.2.1.toNat (Ty.zero tVersion)).2)).getD x.2.1.toNat (Ty.zero tVersion)).2.2))).length : Int)) (par_ite (c := 0 ≤ x.2.1 ∧ x.2.1 < ((((x.2.2.set x.2.1.toNat (y2, (x.2.2.getD x.2.1.toNat (Ty.zero tVersion)).2)).set x.2.1.toNat (((x.2.2.set x.2.1.toNat (y2, (x.2.2.getD x.2.1.toNat (Ty.zero tVersion)).2)).getD x.2.1.toNat (Ty.zero tVersion)).1, (y3, ((x.2.2.set x.2.1.toNat (y2, (x.2.2.getD x.2.1.toNat (Ty.zero tVersion)).2)).getD x.2.1.toNat (Ty.zero tVersion)).2.2))).set x.2.1.toNat ((((x.2.2.set x.2.1.toNat (y2, (x.2.2.getD x.2.1.toNat (Ty.zero tVersion)).2)).set x.2.1.toNat (((x.2.2.set x.2.1.toNat (y2, (x.2.2.getD x.2.1.toNat (Ty.zero tVersion)).2)).getD x.2.1.toNat (Ty.zero tVersion)).1, (y3, ((x.2.2.set x.2.1.toNat (y2, (x.2.2.getD x.2.1.toNat (Ty.zero tVersion)).2)).getD x.2.1.toNat (Ty.zero tVersion)).2.2))).getD x.2.1.toNat (Ty.zero tVersion)).1, ((((x.2.2.set x.2.1.toNat (y2, (x.2.2.getD x.2.1.toNat (Ty.zero tVersion)).2)).set x.2.1.toNat (((x.2.2.set x.2.1.toNat (y2, (x.2.2.getD x.2.1.toNat (Ty.zero tVersion)).2)).getD x.2.1.toNat (Ty.zero tVersion)).1, (y3, ((x.2.2.set x.2.1.toNat (y2, (x.2.2.getD x.2.1.toNat (Ty.zero tVersion)).2)).getD x.2.1.toNat (Ty.zero tVersion)).2.2))).getD x.2.1.toNat (Ty.zero tVersion)).2.1, ((((IntKind.wrap .i64 ((IntKind.wrap .i64 (x.1 + (1 : Int))) + (1 : Int))).tmod (3 : Int)) == (0 : Int)), (((x.2.2.set x.2.1.toNat (y2, (x.2.2.getD x.2.1.toNat (Ty.zero tVersion)).2)).set x.2.1.toNat (((x.2.2.set x.2.1.toNat (y2, (x.2.2.getD x.2.1.toNat (Ty.zero tVersion)).2)).getD x.2.1.toNat (Ty.zero tVersion)).1, (y3, ((x.2.2.set x.2.1.toNat (y2, (x.2.2.getD x.2.1.toNat (Ty.zero tVersion)).2)).getD x.2.1.toNat (Ty.zero tVersion)).2.2))).getD x.2.1.toNat (Ty.zero tVersion)).2.2.2)))).length : Int)) (par_ret _) par_none) par_none) par_none)) par_none)) (par_ret _))

def laws_markVersionS_vo_d (a0 : Int) (a1 : (List dVersion)) (k : (Int × (List dVersion)) → Option Res) : Option Res :=
  loopK laws_markVersionS_vo_b0 Fuel (a0, (0 : Int), a1) (fun z1 =>
    k (z1.1, z1.2.2))

theorem laws_markVersionS_vo_h : ∃ g : Int → (List dVersion) → ((Int × (List dVersion)) → Option Res) → Option Res, g = laws_markVersionS_vo_d := ⟨_, rfl⟩
def laws_markVersionS_vo_k : Int → (List dVersion) → ((Int × (List dVersion)) → Option Res) → Option Res := Classical.choose laws_markVersionS_vo_h
theorem laws_markVersionS_vo_e : laws_markVersionS_vo_k = laws_markVersionS_vo_d := Classical.choose_spec laws_markVersionS_vo_h

theorem laws_markVersionS_vo_p (a0 : Int) (a1 : (List dVersion)) : Par (laws_markVersionS_vo_k a0 a1) := by
  rw [laws_markVersionS_vo_e]
  unfold laws_markVersionS_vo_d
  exact ((par_loop laws_markVersionS_vo_bp0 Fuel (a0, (0 : Int), a1)).bind fun z1 => (par_ret _))

def laws_markRangeS_vo_b0 (x : (Int × Int × (List dRange))) (k : (Int × Int × (List dRange)) ⊕ (Int × Int × (List dRange)) → Option Res) : Option Res :=
    bif (decide (x.2.1 < (x.2.2.length : Int))) then
      laws_markText_k x.1 (fun y2 =>
        if 0 ≤ x.2.1 ∧ x.2.1 < (x.2.2.length : Int) then
          laws_markText_k (IntKind.wrap .i64 (x.1 + (1 : Int))) (fun y3 =>
            if 0 ≤ x.2.1 ∧ x.2.1 < ((x.2.2.set x.2.1.toNat (y2, (x.2.2.getD x.2.1.toNat (Ty.zero tRange)).2)).length : Int) then
              k (.inl ((IntKind.wrap .i64 ((IntKind.wrap .i64 (x.1 + (1 : Int))) + (1 : Int))), (IntKind.wrap .i64 (x.2.1 + (1 : Int))), ((x.2.2.set x.2.1.toNat (y2, (x.2.2.getD x.2.1.toNat (Ty.zero tRange)).2)).set x.2.1.toNat (((x.2.2.set x.2.1.toNat (y2, (x.2.2.getD x.2.1.toNat (Ty.zero tRange)).2)).getD x.2.1.toNat (Ty.zero tRange)).1, y3))))
            else none)
        else none)
    else
      k (.inr (x.1, x.2.1, x.2.2))

theorem laws_markRangeS_vo_bp0 (x : (Int × Int × (List dRange))) : Par (laws_markRangeS_vo_b0 x) := by
  unfold laws_markRangeS_vo_b0
  exact (par_bif ((laws_markText_p x.1).bind fun y2 => (par_ite (c := 0 ≤ x.2.1 ∧ x.2.1 < (x.2.2.length : Int)) ((laws_markText_p (IntKind.wrap .i64 (x.1 + (1 : Int)))).bind fun y3 => (par_ite (c := 0 ≤ x.2.1 ∧ x.2.1 < ((x.2.2.set x.2.1.toNat (y2, (x.2.2.getD x.2.1.toNat (Ty.zero tRange)).2)).length : Int)) (par_ret _) par_none)) par_none)) (par_ret _))

def laws_markRangeS_vo_d (a0 : Int) (a1 : (List dRange)) (k : (Int × (List dRange)) → Option Res) : Option Res :=
  loopK laws_markRangeS_vo_b0 Fuel (a0, (0 : Int), a1) (fun z1 =>
    k (z1.1, z1.2.2))

theorem laws_markRangeS_vo_h : ∃ g : Int → (List dRange) → ((Int × (List dRange)) → Option Res) → Option Res, g = laws_markRangeS_vo_d := ⟨_, rfl⟩
def laws_markRangeS_vo_k : Int → (List dRange) → ((Int × (List dRange)) → Option Res) → Option Res := Classical.choose laws_markRangeS_vo_h
theorem laws_markRangeS_vo_e : laws_markRangeS_vo_k = laws_markRangeS_vo_d := Classical.choose_spec laws_markRangeS_vo_h

theorem laws_markRangeS_vo_p (a0 : Int) (a1 : (List dRange)) : Par (laws_markRangeS_vo_k a0 a1) := by
  rw [laws_markRangeS_vo_e]
  unfold laws_markRangeS_vo_d
  exact ((par_loop laws_markRangeS_vo_bp0 Fuel (a0, (0 : Int), a1)).bind fun z1 => (par_ret _))

def laws_markWriteS_vo_b0 (x : (Int × Int × (List dWrite))) (k : (Int × Int × (List dWrite)) ⊕ (Int × Int × (List dWrite)) → Option Res) : Option Res :=
    bif (decide (x.2.1 < (x.2.2.length : Int))) then
      laws_markText_k x.1 (fun y2 =>
        if 0 ≤ x.2.1 ∧ x.2.1 < (x.2.2.length : Int) then
          laws_markText_k (IntKind.wrap .i64 (x.1 + (1 : Int))) (fun y3 =>
            if 0 ≤ x.2.1 ∧ x.2.1 < ((x.2.2.set x.2.1.toNat (y2, (x.2.2.getD x.2.1.toNat (Ty.zero tWrite)).2)).length : Int) then
              if 0 ≤ x.2.1 ∧ x.2.1 < (((x.2.2.set x.2.1.toNat (y2, (x.2.2.getD x.2.1.toNat (Ty.zero tWrite)).2)).set x.2.1.toNat (((x.2.2.set x.2.1.toNat (y2, (x.2.2.getD x.2.1.toNat (Ty.zero tWrite)).2)).getD x.2.1.toNat (Ty.zero tWrite)).1, (y3, ((x.2.2.set x.2.1.toNat (y2, (x.2.2.getD x.2.1.toNat (Ty.zero tWrite)).2)).getD x.2.1.toNat (Ty.zero tWrite)).2.2))).length : Int) then
                k (.inl ((IntKind.wrap .i64 ((IntKind.wrap .i64 ((IntKind.wrap .i64 (x.1 + (1 : Int))) + (1 : Int))) + (1 : Int))), (IntKind.wrap .i64 (x.2.1 + (1 : Int))), (((x.2.2.set x.2.1.toNat (y2, (x.2.2.getD x.2.1.toNat (Ty.zero tWrite)).2)).set x.2.1.toNat (((x.2.2.set x.2.1.toNat (y2, (x.2.2.getD x.2.1.toNat (Ty.zero tWrite)).2)).getD x.2.1.toNat (Ty.zero tWrite)).1, (y3, ((x.2.2.set x.2.1.toNat (y2, (x.2.2.getD x.2.1.toNat (Ty.zero tWrite)).2)).getD x.2.1.toNat (Ty.zero tWrite)).2.2))).set x.2.1.toNat ((((x.2.2.set x.2.1.toNat (y2, (x.2.2.getD x.2.1.toNat (Ty.zero tWrite)).2)).set x.2.1.toNat (((x.2.2.set x.2.1.toNat (y2, (x.2.2.getD x.2.1.toNat (Ty.zero tWrite)).2)).getD x.2.1.toNat (Ty.zero tWrite)).1, (y3, ((x.2.2.set x.2.1.toNat (y2, (x.2.2.getD x.2.1.toNat (Ty.zero tWrite)).2)).getD x.2.1.toNat (Ty.zero tWrite)).2.2))).getD x.2.1.toNat (Ty.zero tWrite)).1, ((((x.2.2.set x.2.1.toNat (y2, (x.2.2.getD x.2.1.toNat (Ty.zero tWrite)).2)).set x.2.1.toNat (((x.2.2.set x.2.1.toNat (y2, (x.2.2.getD x.2.1.toNat (Ty.zero tWrite)).2)).getD x.2.1.toNat (Ty.zero tWrite)).1, (y3, ((x.2.2.set x.2.1.toNat (y2, (x.2.2.getD x.2.1.toNat (Ty.zero tWrite)).2)).getD x.2.1.toNat (Ty.zero tWrite)).2.2))).getD x.2.1.toNat (Ty.zero tWrite)).2.1, (((IntKind.wrap .i64 ((IntKind.wrap .i64 (x.1 + (1 : Int))) + (1 : Int))).tmod (3 : Int)) == (0 : Int)))))))
              else none
            else none)
        else none)
    else
      k (.inr (x.1, x.2.1, x.2.2))

theorem laws_markWriteS_vo_bp0 (x : (Int × Int × (List dWrite))) : Par (laws_markWriteS_vo_b0 x) := by
  unfold laws_markWriteS_vo_b0
  exact (par_bif ((laws_markText_p x.1).bind fun y2 => (par_ite (c := 0 ≤ x.2.1 ∧ x.2.1 < (x.2.2.length : Int)) ((laws_markText_p (IntKind.wrap .i64 (x.1 + (1 : Int)))).bind fun y3 => (par_ite (c := 0 ≤ x.2.1 ∧ x.2.1 < ((x.2.2.set x.2.1.toNat (y2, (x.2.2.getD x.2.1.toNat (Ty.zero tWrite)).2)).length : Int)) (par_ite (c := 0 ≤ x.2.1 ∧ x.2.1 < (((x.2.2.set x.2.1.toNat (y2, (x.2.2.getD x.2.1.toNat (Ty.zero tWrite)).2)).set x.2.1.toNat (((x.2.2.set x.2.1.toNat (y2, (x.2.2.getD x.2.1.toNat (Ty.zero tWrite)).2)).getD x.2.1.toNat (Ty.zero tWrite)).1, (y3, ((x.2.2.set x.2.1.toNat (y2, (x.2.2.getD x.2.1.toNat (Ty.zero tWrite)).2)).getD x.2.1.toNat (Ty.zero tWrite)).2.2))).length : Int)) (par_ret _) par_none) par_none)) par_none)) (par_ret _))

def laws_markWriteS_vo_d (a0 : Int) (a1 : (List dWrite)) (k : (Int × (List dWrite)) → Option Res) : Option Res :=
  loopK laws_markWriteS_vo_b0 Fuel (a0, (0 : Int), a1) (fun z1 =>
    k (z1.1, z1.2.2))

theorem laws_markWriteS_vo_h : ∃ g : Int → (List dWrite) → ((Int × (List dWrite)) → Option Res) → Option Res, g = laws_markWriteS_vo_d := ⟨_, rfl⟩
def laws_markWriteS_vo_k : Int → (List dWrite) → ((Int × (List dWrite)) → Option Res) → Option Res := Classical.choose laws_markWriteS_vo_h
theorem laws_markWriteS_vo_e : laws_markWriteS_vo_k = laws_markWriteS_vo_d := Classical.choose_spec laws_markWriteS_vo_h

theorem laws_markWriteS_vo_p (a0 : Int) (a1 : (List dWrite)) : Par (laws_markWriteS_vo_k a0 a1) := by
  rw [laws_markWriteS_vo_e]
  unfold laws_markWriteS_vo_d
  exact ((par_loop laws_markWriteS_vo_bp0 Fuel (a0, (0 : Int), a1)).bind fun z1 => (par_ret _))

def laws_markTxnS_vd_j5000003 (x : (Int × Int × (List dTxn))) (k : (Int × Int × (List dTxn)) → Option Res) : Option Res :=
    k (x.1, (IntKind.wrap .i64 (x.2.1 + (1 : Int))), x.2.2)

theorem laws_markTxnS_vd_jp5000003 (x : (Int × Int × (List dTxn))) : Par (laws_markTxnS_vd_j5000003 x) := by
  unfold laws_markTxnS_vd_j5000003
  exact (par_ret _)

def laws_markTxnS_vd_j5000017 (x : (Int × Int × (List dTxn))) (k : (Int × Int × (List dTxn)) → Option Res) : Option Res :=
    k ((IntKind.wrap .i64 (x.1 + (1 : Int))), x.2.1, x.2.2)

theorem laws_markTxnS_vd_jp5000017 (x : (Int × Int × (List dTxn))) : Par (laws_markTxnS_vd_j5000017 x) := by
  unfold laws_markTxnS_vd_j5000017
  exact (par_ret _)

def laws_markTxnS_vd_j5000015 (x : (Int × Int × (List dTxn))) (k : (Int × Int × (List dTxn)) → Option Res) : Option Res :=
    laws_markText_k (IntKind.wrap .i64 (x.1 + (1 : Int))) (fun y10 =>
      if 0 ≤ x.2.1 ∧ x.2.1 < (x.2.2.length : Int) then
        laws_markTxnS_vd_j5000017 ((IntKind.wrap .i64 (x.1 + (1 : Int))), x.2.1, (x.2.2.set x.2.1.toNat ((x.2.2.getD x.2.1.toNat (Ty.zero tTxn)).1, ((x.2.2.getD x.2.1.toNat (Ty.zero tTxn)).2.1, ((x.2.2.getD x.2.1.toNat (Ty.zero tTxn)).2.2.1, ((x.2.2.getD x.2.1.toNat (Ty.zero tTxn)).2.2.2.1, ((x.2.2.getD x.2.1.toNat (Ty.zero tTxn)).2.2.2.2.1, ((x.2.2.getD x.2.1.toNat (Ty.zero tTxn)).2.2.2.2.2.1, ((x.2.2.getD x.2.1.toNat (Ty.zero tTxn)).2.2.2.2.2.2.1, y10))))))))) (fun z11 =>
          k (z11.1, z11.2.1, z11.2.2))
      else none)

theorem laws_markTxnS_vd_jp5000015 (x : (Int × Int × (List dTxn))) : Par (laws_markTxnS_vd_j5000015 x) := by
  unfold laws_markTxnS_vd_j5000015
  exact ((laws_markText_p (IntKind.wrap .i64 (x.1 + (1 : Int)))).bind fun y10 => (par_ite (c := 0 ≤ x.2.1 ∧ x.2.1 < (x.2.2.length : Int)) ((laws_markTxnS_vd_jp5000017 ((IntKind.wrap .i64 (x.1 + (1 : Int))), x.2.1, (x.2.2.set x.2.1.toNat ((x.2.2.getD x.2.1.toNat (Ty.zero tTxn)).1, ((x.2.2.getD x.2.1.toNat (Ty.zero tTxn)).2.1, ((x.2.2.getD x.2.1.toNat (Ty.zero tTxn)).2.2.1, ((x.2.2.getD x.2.1.toNat (Ty.zero tTxn)).2.2.2.1, ((x.2.2.getD x.2.1.toNat (Ty.zero tTxn)).2.2.2.2.1, ((x.2.2.getD x.2.1.toNat (Ty.zero tTxn)).2.2.2.2.2.1, ((x.2.2.getD x.2.1.toNat (Ty.zero tTxn)).2.2.2.2.2.2.1, y10)))))))))).bind fun z11 => (par_ret _)) par_none))

def laws_markTxnS_vd_j5000011 (x : (Int × Int × (List dTxn))) (k : (Int × Int × (List dTxn)) → Option Res) : Option Res :=
    if 0 ≤ x.2.1 ∧ x.2.1 < (x.2.2.length : Int) then
      laws_markRangeS_vo_k (IntKind.wrap .i64 (x.1 + (1 : Int))) ((x.2.2.getD x.2.1.toNat (Ty.zero tTxn)).2.2.2.2.1) (fun y7 =>
        if 0 ≤ x.2.1 ∧ x.2.1 < ((x.2.2.set x.2.1.toNat ((x.2.2.getD x.2.1.toNat (Ty.zero tTxn)).1, ((x.2.2.getD x.2.1.toNat (Ty.zero tTxn)).2.1, ((x.2.2.getD x.2.1.toNat (Ty.zero tTxn)).2.2.1, ((x.2.2.getD x.2.1.toNat (Ty.zero tTxn)).2.2.2.1, (y7.2, (x.2.2.getD x.2.1.toNat (Ty.zero tTxn)).2.2.2.2.2)))))).length : Int) then
          laws_markWriteS_vo_k y7.1 (((x.2.2.set x.2.1.toNat ((x.2.2.getD x.2.1.toNat (Ty.zero tTxn)).1, ((x.2.2.getD x.2.1.toNat (Ty.zero tTxn)).2.1, ((x.2.2.getD x.2.1.toNat (Ty.zero tTxn)).2.2.1, ((x.2.2.getD x.2.1.toNat (Ty.zero tTxn)).2.2.2.1, (y7.2, (x.2.2.getD x.2.1.toNat (Ty.zero tTxn)).2.2.2.2.2)))))).getD x.2.1.toNat (Ty.zero tTxn)).2.2.2.2.2.1) (fun y8 =>
            if 0 ≤ x.2.1 ∧ x.2.1 < (((x.2.2.set x.2.1.toNat ((x.2.2.getD x.2.1.toNat (Ty.zero tTxn)).1, ((x.2.2.getD x.2.1.toNat (Ty.zero tTxn)).2.1, ((x.2.2.getD x.2.1.toNat (Ty.zero tTxn)).2.2.1, ((x.2.2.getD x.2.1.toNat (Ty.zero tTxn)).2.2.2.1, (y7.2, (x.2.2.getD x.2.1.toNat (Ty.zero tTxn)).2.2.2.2.2)))))).set x.2.1.toNat (((x.2.2.set x.2.1.toNat ((x.2.2.getD x.2.1.toNat (Ty.zero tTxn)).1, ((x.2.2.getD x.2.1.toNat (Ty.zero tTxn)).2.1, ((x.2.2.getD x.2.1.toNat (Ty.zero tTxn)).2.2.1, ((x.2.2.getD x.2.1.toNat (Ty.zero tTxn)).2.2.2.1, (y7.2, (x.2.2.getD x.2.1.toNat (Ty.zero tTxn)).2.2.2.2.2)))))).getD x.2.1.toNat (Ty.zero tTxn)).1, (((x.2.2.set x.2.1.toNat ((x.2.2.getD x.2.1.toNat (Ty.zero tTxn)).1, ((x.2.2.getD x.2.1.toNat (Ty.zero tTxn)).2.1, ((x.2.2.getD x.2.1.toNat (Ty.zero tTxn)).2.2.1, ((x.2.2.getD x.2.1.toNat (Ty.zero tTxn)).2.2.2.1, (y7.2, (x.2.2.getD x.2.1.toNat (Ty.zero tTxn)).2.2.2.2.2)))))).getD x.2.1.toNat (Ty.zero tTxn)).2.1, (((x.2.2.set x.2.1.toNat ((x.2.2.getD x.2.1.toNat (Ty.zero tTxn)).1, ((x.2.2.getD x.2.1.toNat (Ty.zero tTxn)).2.1, ((x.2.2.getD x.2.1.toNat (Ty.zero tTxn)).2.2.1, ((x.2.2.getD x.2.1.toNat (Ty.zero tTxn)).2.2.2.1, (y7.2, (x.2.2.getD x.2.1.toNat (Ty.zero tTxn)).2.2.2.2.2)))))).getD x.2.1.toNat (Ty.zero tTxn)).2.2.1, (((x.2.2.set x.2.1.toNat ((x.2.2.getD x.2.1.toNat (Ty.zero tTxn)).1, ((x.2.2.getD x.2.1.toNat (Ty.zero tTxn)).2.1, ((x.2.2.getD x.2.1.toNat (Ty.zero tTxn)).2.2.1, ((x.2.2.getD x.2.1.toNat (Ty.zero tTxn)).2.2.2.1, (y7.2, (x.2.2.getD x.2.1.toNat (Ty.zero tTxn)).2.2.2.2.2)))))).getD x.2.1.toNat (Ty.zero tTxn)).2.2.2.1, (((x.2.2.set x.2.1.toNat ((x.2.2.getD x.2.1.toNat (Ty.zero tTxn)).1, ((x.2.2.getD x.2.1.toNat (Ty.zero tTxn)).2.1, ((x.2.2.getD x.2.1.toNat (Ty.zero tTxn)).2.2.1, ((x.2.2.getD x.2.1.toNat (Ty.zero tTxn)).2.2.2.1, (y7.2, (x.2.2.getD x.2.1.toNat (Ty.zero tTxn)).2.2.2.2.2)))))).getD x.2.1.toNat (Ty.zero tTxn)).2.2.2.2.1, (y8.2, ((x.2.2.set x.2.1.toNat ((x.2.2.getD x.2.1.toNat (Ty.zero tTxn)).1, ((x.2.2.getD x.2.1.toNat (Ty.zero tTxn)).2.1, ((x.2.2.getD x.2.1.toNat (Ty.zero tTxn)).2.2.1, ((x.2.2.getD x.2.1.toNat (Ty.zero tTxn)).2.2.2.1, (y7.2, (x.2.2.getD x.2.1.toNat (Ty.zero tTxn)).2.2.2.2.2)))))).getD x.2.1.toNat (Ty.zero tTxn)).2.2.2.2.2.2))))))).length : Int) then
              laws_markTxnS_vd_j5000015 (y8.1, x.2.1, (((x.2.2.set x.2.1.toNat ((x.2.2.getD x.2.1.toNat (Ty.zero tTxn)).1, ((x.2.2.getD x.2.1.toNat (Ty.zero tTxn)).2.1, ((x.2.2.getD x.2.1.toNat (Ty.zero tTxn)).2.2.1, ((x.2.2.getD x.2.1.toNat (Ty.zero tTxn)).2.2.2.1, (y7.2, (x.2.2.getD x.2.1.toNat (Ty.zero tTxn)).2.2.2.2.2)))))).set x.2.1.toNat (((x.2.2.set x.2.1.toNat ((x.2.2.getD x.2.1.toNat (Ty.zero tTxn)).1, ((x.2.2.getD x.2.1.toNat (Ty.zero tTxn)).2.1, ((x.2.2.getD x.2.1.toNat (Ty.zero tTxn)).2.2.1, ((x.2.2.getD x.2.1.toNat (Ty.zero tTxn)).2.2.2.1, (y7.2, (x.2.2.getD x.2.1.toNat (Ty.zero tTxn)).2.2.2.2.2)))))).getD x.2.1.toNat (Ty.zero tTxn)).1, (((x.2.2.set x.2.1.toNat ((x.2.2.getD x.2.1.toNat (Ty.zero tTxn)).1, ((x.2.2.getD x.2.1.toNat (Ty.zero tTxn)).2.1, ((x.2.2.getD x.2.1.toNat (Ty.zero tTxn)).2.2.1, ((x.2.2.getD x.2.1.toNat (Ty.zero tTxn)).2.2.2.1, (y7.2, (x.2.2.getD x.2.1.toNat (Ty.zero tTxn)).2.2.2.2.2)))))).getD x.2.1.toNat (Ty.zero tTxn)).2.1, (((x.2.2.set x.2.1.toNat ((x.2.2.getD x.2.1.toNat (Ty.zero tTxn)).1, ((x.2.2.getD x.2.1.toNat (Ty.zero tTxn)).2.1, ((x.2.2.getD x.2.1.toNat (Ty.zero tTxn)).2.2.1, ((x.2.2.getD x.2.1.toNat (Ty.zero tTxn)).2.2.2.1, (y7.2, (x.2.2.getD x.2.1.toNat (Ty.zero tTxn)).2.2.2.2.2)))))).getD x.2.1.toNat (Ty.zero tTxn)).2.2.1, (((x.2.2.set x.2.1.toNat ((x.2.2.getD x.2.1.toNat (Ty.zero tTxn)).1, ((x.2.2.getD x.2.1.toNat (Ty.zero tTxn)).2.1, ((x.2.2.getD x.2.1.toNat (Ty.zero tTxn)).2.2.1, ((x.2.2.getD x.2.1.toNat (Ty.zero tTxn)).2.2.2.1, (y7.2, (x.2.2.getD x.2.1.toNat (Ty.zero tTxn)).2.2.2.2.2)))))).getD x.2.1.toNat (Ty.zero tTxn)).2.2.2.1, (((x.2.2.set x.2.1.toNat ((x.2.2.getD x.2.1.toNat (Ty.zero tTxn)).1, ((x.2.2.getD x.2.1.toNat (Ty.zero tTxn)).2.1, ((x.2.2.getD x.2.1.toNat (Ty.zero tTxn)).2.2.1, ((x.2.2.getD x.2.1.toNat (Ty.zero tTxn)).2.2.2.1, (y7.2, (x.2.2.getD x.2.1.toNat (Ty.zero tTxn)).2.2.2.2.2)))))).getD x.2.1.toNat (Ty.zero tTxn)).2.2.2.2.1, (y8.2, ((x.2.2.set x.2.1.toNat ((x.2.2.getD x.2.1.toNat (Ty.zero tTxn)).1, ((x.2.2.getD x.2.1.toNat (Ty.zero tTxn)).2.1, ((x.2.2.getD x.2.1.toNat (Ty.zero tTxn)).2.2.1, ((x.2.2.getD x.2.1.toNat (Ty.zero tTxn)).2.2.2.1, (y7.2, (x.2.2.getD x.2.1.toNat (Ty.zero tTxn)).2.2.2.2.2)))))).getD x.2.1.toNat (Ty.zero tTxn)).2.2.2.2.2.2))))))).set x.2.1.toNat ((((x.2.2.set x.2.1.toNat ((x.2.2.getD x.2.1.toNat (Ty.zero tTxn)).1, ((x.2.2.getD x.2.1.toNat (Ty.zero tTxn)).2.1, ((x.2.2.getD x.2.1.toNat (Ty.zero tTxn)).2.2.1, ((x.2.2.getD x.2.1.toNat (Ty.zero tTxn)).2.2.2.1, (y7.2, (x.2.2.getD x.2.1.toNat (Ty.zero tTxn)).2.2.2.2.2)))))).set x.2.1.toNat (((x.2.2.set x.2.1.toNat ((x.2.2.getD x.2.1.toNat (Ty.zero tTxn)).1, ((x.2.2.getD x.2.1.toNat (Ty.zero tTxn)).2.1, ((x.2.2.getD x.2.1.toNat (Ty.zero tTxn)).2.2.1, ((x.2.2.getD x.2.1.toNat (Ty.zero tTxn)).2.2.2.1, (y7.2, (x.2.2.getD x.2.1.toNat (Ty.zero tTxn)).2.2.2.2.2)))))).getD x.2.1.toNat (Ty.zero tTxn)).1, (((x.2.2.set x.2.1.toNat ((x.2.2.getD x.2.1.toNat (Ty.zero tTxn)).1, ((x.2.2.getD x.2.1.toNat (Ty.zero tTxn)).2.1, ((x.2.2.getD x.2.1.toNat (Ty.zero tTxn)).2.2.1, ((x.2.2.getD x.2.1.toNat (Ty.zero tTxn)).2.2.2.1, (y7.2, (x.2.2.getD x.2.1.toNat (Ty.zero tTxn)).2.2.2.2.2)))))).getD x.2.1.toNat (Ty.zero tTxn)).2.1, (((x.2.2.set x.2.1.toNat ((x.2.2.getD x.2.1.toNat (Ty.zero tTxn)).1, ((x.2.2.getD x.2.1.toNat (Ty.zero tTxn)).2.1, ((x.2.2.getD x.2.1.toNat (Ty.zero tTxn)).2.2.1, ((x.2.2.getD x.2.1.toNat (Ty.zero tTxn)).2.2.2.1, (y7.2, (x.2.2.getD x.2.1.toNat (Ty.zero tTxn)).2.2.2.2.2)))))).getD x.2.1.toNat (Ty.zero tTxn)).2.2.1, (((x.2.2.set x.2.1.toNat ((x.2.2.getD x.2.1.toNat (Ty.zero tTxn)).1, ((x.2.2.getD x.2.1.toNat (Ty.zero tTxn)).2.1, ((x.2.2.getD x.2.1.toNat (Ty.zero tTxn)).2.2.1, ((x.2.2.getD x.2.1.toNat (Ty.zero tTxn)).2.2.2.1, (y7.2, (x.2.2.getD x.2.1.toNat (Ty.zero tTxn)).2.2.2.2.2)))))).getD x.2.1.toNat (Ty.zero tTxn)).2.2.2.1, (((x.2.2.set x.2.1.toNat ((x.2.2.getD x.2.1.toNat (Ty.zero tTxn)).1, ((x.2.2.getD x.2.1.toNat (Ty.zero tTxn)).2.1, ((x.2.2.getD x.2.1.toNat (Ty.zero tTxn)).2.2.1, ((x.2.2.getD x.2.1.toNat (Ty.zero tTxn)).2.2.2.1, (y7.2, (x.2.2.getD x.2.1.toNat (Ty.zero tTxn)).2.2.2.2.2)))))).getD x.2.1.toNat (Ty.zero tTxn)).2.2.2.2.1, (y8.2, ((x.2.2.set x.2.1.toNat ((x.2.2.getD x.2.1.toNat (Ty.zero tTxn)).1, ((x.2.2.getD x.2.1.toNat (Ty.zero tTxn)).2.1, ((x.2.2.getD x.2.1.toNat (Ty.zero tTxn)).2.2.1, ((x.2.2.getD x.2.1.toNat (Ty.zero tTxn)).2.2.2.1, (y7.2, (x.2.2.getD x.2.1.toNat (Ty.zero tTxn)).2.2.2.2.2)))))).getD x.2.1.toNat (Ty.zero tTxn)).2.2.2.2.2.2))))))).getD x.2.1.toNat (Ty.zero tTxn)).1, ((((x.2.2.set x.2.1.toNat ((x.2.2.getD x.2.1.toNat (Ty.zero tTxn)).1, ((x.2.2.getD x.2.1.toNat (Ty.zero tTxn)).2.1, ((x.2.2.getD x.2.1.toNat (Ty.zero tTxn)).2.2.1, ((x.2.2.getD x.2.1.toNat (Ty.zero tTxn)).2.2.2.1, (y7.2, (x.2.2.getD x.2.1.toNat (Ty.zero tTxn)).2.2.2.2.2)))))).set x.2.1.toNat (((x.2.2.set x.2.1.toNat ((x.2.2.getD x.2.1.toNat (Ty.zero tTxn)).1, ((x.2.2.getD x.2.1.toNat (Ty.zero tTxn)).2.1, ((x.2.2.getD x.2.1.toNat (Ty.zero tTxn)).2.2.1, ((x.2.2.getD x.2.1.toNat (Ty.zero tTxn)).2.2.2.1, (y7.2, (x.2.2.getD x.2.1.toNat (Ty.zero tTxn)).2.2.2.2.2)))))).getD x.2.1.toNat (Ty.zero tTxn)).1, (((x.2.2.set x.2.1.toNat ((x.2.2.getD x.2.1.toNat (Ty.zero tTxn)).1, ((x.2.2.getD x.2.1.toNat (Ty.zero tTxn)).2.1, ((x.2.2.getD x.2.1.toNat (Ty.zero tTxn)).2.2.1, ((x.2.2.getD x.2.1.toNat (Ty.zero tTxn)).2.2.2.1, (y7.2, (x.2.2.getD x.2.1.toNat (Ty.zero tTxn)).2.2.2.2.2)))))).getD x.2.1.toNat (Ty.zero tTxn)).2.1, (((x.2.2.set x.2.1.toNat ((x.2.2.getD x.2.1.toNat (Ty.zero tTxn)).1, ((x.2.2.getD x.2.1.toNat (Ty.zero tTxn)).2.1, ((x.2.2.getD x.2.1.toNat (Ty.zero tTxn)).2.2.1, ((x.2.2.getD x.2.1.toNat (Ty.zero tTxn)).2.2.2.1, (y7.2, (x.2.2.getD x.2.1.toNat (Ty.zero tTxn)).2.2.2.2.2)))))).getD x.2.1.toNat (Ty.zero tTxn)).2.2.1, (((x.2.2.set x.2.1.toNat ((x.2.2.getD x.2.1.toNat (Ty.zero tTxn)).1, ((x.2.2.getD x.2.1.toNat (Ty.zero tTxn)).2.1, ((x.2.2.getD x.2.1.toNat (Ty.zero tTxn)).2.2.1, ((x.2.2.getD x.2.1.toNat (Ty.zero tTxn)).2.2.2.1, (y7.2, (x.2.2.getD x.2.1.toNat (Ty.zero tTxn)).2.2.2.2.2)))))).getD x.2.1.toNat (Ty.zero tTxn)).2.2.2.1, (((x.2.2.set x.2.1.toNat ((x.2.2.getD x.2.1.toNat (Ty.zero tTxn)).1, ((x.2.2.getD x.2.1.toNat (Ty.zero tTxn)).2.1, ((x.2.2.getD x.2.1.toNat (Ty.zero tTxn)).2.2.1, ((x.2.2.getD x.2.1.toNat (Ty.zero tTxn)).2.2.2.1, (y7.2, (x.2.2.getD x.2.1.toNat (Ty.zero tTxn)).2.2.2.2.2)))))).getD x.2.1.toNat (Ty.zero tTxn)).2.2.2.2.1, (y8.2, ((x.2.2.set x.2.1.toNat ((x.2.2.getD x.2.1.toNat (Ty.zero tTxn)).1, ((x.2.2.getD x.2.1.toNat (Ty.zero tTxn)).2.1, ((x.2.2.getD x.2.1.toNat (Ty.zero tTxn)).2.2.1, ((x.2.2.getD x.2.1.toNat (Ty.zero tTxn)).2.2.2.1, (y7.2, (x.2.2.getD x.2.1.toNat (Ty.zero tTxn)).2.2.2.2.2)))))).getD x.2.1.toNat (Ty.zero tTxn)).2.2.2.2.2.2))))))).getD x.2.1.toNat (Ty.zero tTxn)).2.1, ((((x.2.2.set x.2.1.toNat ((x.2.2.getD x.2.1.toNat (Ty.zero tTxn)).1, ((x.2.2.getD x.2.1.toNat (Ty.zero tTxn)).2.1, ((x.2.2.getD x.2.1.toNat (Ty.zero tTxn)).2.2.1, ((x.2.2.getD x.2.1.toNat (Ty.zero tTxn)).2.2.2.1, (y7.2, (x.2.2.getD x.2.1.toNat (Ty.zero tTxn)).2.2.2.2.2)))))).set x.2.1.toNat (((x.2.2.set x.2.1.toNat ((x.2.2.getD x.2.1.toNat (Ty.zero tTxn)).1, ((x.2.2.getD x.2.1.toNat (Ty.zero tTxn)).2.1, ((x.2.2.getD x.2.1.toNat (Ty.zero tTxn)).2.2.1, ((x.2.2.getD x.2.1.toNat (Ty.zero tTxn)).2.2.2.1, (y7.2, (x.2.2.getD x.2.1.toNat (Ty.zero tTxn)).2.2.2.2.2)))))).getD x.2.1.toNat (Ty.zero tTxn)).1, (((x.2.2.set x.2.1.toNat ((x.2.2.getD x.2.1.toNat (Ty.zero tTxn)).1, ((x.2.2.getD x.2.1.toNat (Ty.zero tTxn)).2.1, ((x.2.2.getD x.2.1.toNat (Ty.zero tTxn)).2.2.1, ((x.2.2.getD x.2.1.toNat (Ty.zero tTxn)).2.2.2.1, (y7.2, (x.2.2.getD x.2.1.toNat (Ty.zero tTxn)).2.2.2.2.2)))))).getD x.2.1.toNat (Ty.zero tTxn)).2.1, (((x.2.2.set x.2.1.toNat ((x.2.2.getD x.2.1.toNat (Ty.zero tTxn)).1, ((x.2.2.getD x.2.1.toNat (Ty.zero tTxn)).2.1, ((x.2.2.getD x.2.1.toNat (Ty.zero tTxn)).2.2.1, ((x.2.2.getD x.2.1.toNat (Ty.zero tTxn)).2.2.2.1, (y7.2, (x.2.2.getD x.2.1.toNat (Ty.zero tTxn)).2.2.2.2.2)))))).getD x.2.1.toNat (Ty.zero tTxn)).2.2.1, (((x.2.2.set x.2.1.toNat ((x.2.2.getD x.2.1.toNat (Ty.zero tTxn)).1, ((x.2.2.getD x.2.1.toNat (Ty.zero tTxn)).2.1, ((x.2.2.getD x.2.1.toNat (Ty.zero tTxn)).2.2.1, ((x.2.2.getD x.2.1.toNat (Ty.zero tTxn)).2.2.2.1, (y7.2, (x.2.2.getD x.2.1.toNat (Ty.zero tTxn)).2.2.2.2.2)))))).getD x.2.1.toNat (Ty.zero tTxn)).2.2.2.1, (((x.2.2.set x.2.1.toNat ((x.2.2.getD x.2.1.toNat (Ty.zero tTxn)).1, ((x.2.2.getD x.2.1.toNat (Ty.zero tTxn)).2.1, ((x.2.2.getD x.2.1.toNat (Ty.zero tTxn)).2.2.1, ((x.2.2.getD x.2.1.toNat (Ty.zero tTxn)).2.2.2.1, (y7.2, (x.2.2.getD x.2.1.toNat (Ty.zero tTxn)).2.2.2.2.2)))))).getD x.2.1.toNat (Ty.zero tTxn)).2.2.2.2.1, (y8.2, ((x.2.2.set x.2.1.toNat ((x.2.2.getD x.2.1.toNat (Ty.zero tTxn)).1, ((x.2.2.getD x.2.1.toNat (Ty.zero tTxn)).2.1, ((x.2.2.getD x.2.1.toNat (Ty.zero tTxn)).2.2.1, ((x.2.2.getD x.2.1.toNat (Ty.zero tTxn)).2.2.2.1, (y7.2, (x.2.2.getD x.2.1.toNat (Ty.zero tTxn)).2.2.2.2.2)))))).getD x.2.1.toNat (Ty.zero tTxn)).2.2.2.2.2.2))))))).getD x.2.1.toNat (Ty.zero tTxn)).2.2.1, ((((x.2.2.set x.2.1.toNat ((x.2.2.getD x.2.1.toNat (Ty.zero tTxn)).1, ((x.2.2.getD x.2.1.toNat (Ty.zero tTxn)).2.1, ((x.2.2.getD x.2.1.toNat (Ty.zero tTxn)).2.2.1, ((x.2.2.getD x.2.1.toNat (Ty.zero tTxn)).2.2.2.1, (y7.2, (x.2.2.getD x.2.1.toNat (Ty.zero tTxn)).2.2.2.2.2)))))).set x.2.1.toNat (((x.2.2.set x.2.1.toNat ((x.2.2.getD x.2.1.toNat (Ty.zero tTxn)).1, ((x.2.2.getD x.2.1.toNat (Ty.zero tTxn)).2.1, ((x.2.2.getD x.2.1.toNat (Ty.zero tTxn)).2.2.1, ((x.2.2.getD x.2.1.toNat (Ty.zero tTxn)).2.2.2.1, (y7.2, (x.2.2.getD x.2.1.toNat (Ty.zero tTxn)).2.2.2.2.2)))))).getD x.2.1.toNat (Ty.zero tTxn)).1, (((x.2.2.set x.2.1.toNat ((x.2.2.getD x.2.1.toNat (Ty.zero tTxn)).1, ((x.2.2.getD x.2.1.toNat (Ty.zero tTxn)).2.1, ((x.2.2.getD x.2.1.toNat (Ty.zero tTxn)).2.2.1, ((x.2.2.getD x.2.1.toNat (Ty.zero tTxn)).2.2.2.1, (y7.2, (x.2.2.getD x.2.1.toNat (Ty.zero tTxn)).2.2.2.2.2)))))).getD x.2.1.toNat (Ty.zero tTxn)).2.1, (((x.2.2.set x.2.1.toNat ((x.2.2.getD x.2.1.toNat (Ty.zero tTxn)).1, ((x.2.2.getD x.2.1.toNat (Ty.zero tTxn)).2.1, ((x.2.2.getD x.2.1.toNat (Ty.zero tTxn)).2.2.1, ((x.2.2.getD x.2.1.toNat (Ty.zero tTxn)).2.2.2.1, (y7.2, (x.2.2.getD x.2.1.toNat (Ty.zero tTxn)).2.2.2.2.2)))))).getD x.2.1.toNat (Ty.zero tTxn)).2.2.1, (((x.2.2.set x.2.1.toNat ((x.2.2.getD x.2.1.toNat (Ty.zero tTxn)).1, ((x.2.2.getD x.2.1.toNat (Ty.zero tTxn)).2.1, ((x.2.2.getD x.2.1.toNat (Ty.zero tTxn)).2.2.1, ((x.2.2.getD x.2.1.toNat (Ty.zero tTxn)).2.2.2.1, (y7.2, (x.2.2.getD x.2.1.toNat (Ty.zero tTxn)).2.2.2.2.2)))))).getD x.2.1.toNat (Ty.zero tTxn)).2.2.2.1, (((x.2.2.set x.2.1.toNat ((x.2.2.getD x.2.1.toNat (Ty.zero tTxn)).1, ((x.2.2.getD x.2.1.toNat (Ty.zero tTxn)).2.1, ((x.2.2.getD x.2.1.toNat (Ty.zero tTxn)).2.2.1, ((x.2.2.getD x.2.1.toNat (Ty.zero tTxn)).2.2.2.1, (y7.2, (x.2.2.getD x.2.1.toNat (Ty.zero tTxn)).2.2.2.2.2)))))).getD x.2.1.toNat (Ty.zero tTxn)).2.2.2.2.1, (y8.2, ((x.2.2.set x.2.1.toNat ((x.2.2.getD x.2.1.toNat (Ty.zero tTxn)).1, ((x.2.2.getD x.2.1.toNat (Ty.zero tTxn)).2.1, ((x.2.2.getD x.2.1.toNat (Ty.zero tTxn)).2.2.1, ((x.2.2.getD x.2.1.toNat (Ty.zero tTxn)).2.2.2.1, (y7.2, (x.2.2.getD x.2.1.toNat (Ty.zero tTxn)).2.2.2.2.2)))))).getD x.2.1.toNat (Ty.zero tTxn)).2.2.2.2.2.2))))))).getD x.2.1.toNat (Ty.zero tTxn)).2.2.2.1, ((((x.2.2.set x.2.1.toNat ((x.2.2.getD x.2.1.toNat (Ty.zero tTxn)).1, ((x.2.2.getD x.2.1.toNat (Ty.zero tTxn)).2.1, ((x.2.2.getD x.2.1.toNat (Ty.zero tTxn)).2.2.1, ((x.2.2.getD x.2.1.toNat (Ty.zero tTxn)).2.2.2.1, (y7.2, (x.2.2.getD x.2.1.toNat (Ty.zero tTxn)).2.2.2.2.2)))))).set x.2.1.toNat (((x.2.2.set x.2.1.toNat ((x.2.2.getD x.2.1.toNat (Ty.zero tTxn)).1, ((x.2.2.getD x.2.1.toNat (Ty.zero tTxn)).2.1, ((x.2.2.getD x.2.1.toNat (Ty.zero tTxn)).2.2.1, ((x.2.2.getD x.2.1.toNat (Ty.zero tTxn)).2.2.2.1, (y7.2, (x.2.2.getD x.2.1.toNat (Ty.zero tTxn)).2.2.2.2.2)))))).getD x.2.1.toNat (Ty.zero tTxn)).1, (((x.2.2.set x.2.1.toNat ((x.2.2.getD x.2.1.toNat (Ty.zero tTxn)).1, ((x.2.2.getD x.2.1.toNat (Ty.zero tTxn)).2.1, ((x.2.2.getD x.2.1.toNat (Ty.zero tTxn)).2.2.1, ((x.2.2.getD x.2.1.toNat (Ty.zero tTxn)).2.2.2.1, (y7.2, (x.2.2.getD x.2.1.toNat (Ty.zero tTxn)).2.2.2.2.2)))))).getD x.2.1.toNat (Ty.zero tTxn)).2.1, (((x.2.2.set x.2.1.toNat ((x.2.2.getD x.2.1.toNat (Ty.zero tTxn)).1, ((x.2.2.getD x.2.1.toNat (Ty.zero tTxn)).2.1, ((x.2.2.getD x.2.1.toNat (Ty.zero tTxn)).2.2.1, ((x.2.2.getD x.2.1.toNat (Ty.zero tTxn)).2.2.2.1, (y7.2, (x.2.2.getD x.2.1.toNat (Ty.zero tTxn)).2.2.2.2.2)))))).getD x.2.1.toNat (Ty.zero tTxn)).2.2.1, (((x.2.2.set x.2.1.toNat ((x.2.2.getD x.2.1.toNat (Ty.zero tTxn)).1, ((x.2.2.getD x.2.1.toNat (Ty.zero tTxn)).2.1, ((x.2.2.getD x.2.1.toNat (Ty.zero tTxn)).2.2.1, ((x.2.2.getD x.2.1.toNat (Ty.zero tTxn)).2.2.2.1, (y7.2, (x.2.2.getD x.2.1.toNat (Ty.zero tTxn)).2.2.2.2.2)))))).getD x.2.1.toNat (Ty.zero tTxn)).2.2.2.1, (((x.2.2.set x.2.1.toNat ((x.2.2.getD x.2.1.toNat (Ty.zero tTxn)).1, ((x.2.2.getD x.2.1.toNat (Ty.zero tTxn)).2.1, ((x.2.2.getD x.2.1.toNat (Ty.zero tTxn)).2.2.1, ((x.2.2.getD x.2.1.toNat (Ty.zero tTxn)).2.2.2.1, (y7.2, (x.2.2.getD x.2.1.toNat (Ty.zero tTxn)).2.2.2.2.2)))))).getD x.2.1.toNat (Ty.zero tTxn)).2.2.2.2.1, (y8.2, ((x.2.2.set x.2.1.toNat ((x.2.2.getD x.2.1.toNat (Ty.zero tTxn)).1, ((x.2.2.getD x.2.1.toNat (Ty.zero tTxn)).2.1, ((x.2.2.getD x.2.1.toNat (Ty.zero tTxn)).2.2.1, ((x.2.2.getD x.2.1.toNat (Ty.zero tTxn)).2.2.2.1, (y7.2, (x.2.2.getD x.2.1.toNat (Ty.zero tTxn)).2.2.2.2.2)))))).getD x.2.1.toNat (Ty.zero tTxn)).2.2.2.2.2.2))))))).getD x.2.1.toNat (Ty.zero tTxn)).2.2.2.2.1, ((((x.2.2.set x.2.1.toNat ((x.2.2.getD x.2.1.toNat (Ty.zero tTxn)).1, ((x.2.2.getD x.2.1.toNat (Ty.zero tTxn)).2.1, ((x.2.2.getD x.2.1.toNat (Ty.zero tTxn)).2.2.1, ((x.2.2.getD x.2.1.toNat (Ty.zero tTxn)).2.2.2.1, (y7.2, (x.2.2.getD x.2.1.toNat (Ty.zero tTxn)).2.2.2.2.2)))))).set x.2.1.toNat (((x.2.2.set x.2.1.toNat ((x.2.2.getD x.2.1.toNat (Ty.zero tTxn)).1, ((x.2.2.getD x.2.1.toNat (Ty.zero tTxn)).2.1, ((x.2.2.getD x.2.1.toNat (Ty.zero tTxn)).2.2.1, ((x.2.2.getD x.2.1.toNat (Ty.zero tTxn)).2.2.2.1, (y7.2, (x.2.2.getD x.2.1.toNat (Ty.zero tTxn)).2.2.2.2.2)))))).getD x.2.1.toNat (Ty.zero tTxn)).1, (((x.2.2.set x.2.1.toNat ((x.2.2.getD x.2.1.toNat (Ty.zero tTxn)).1, ((x.2.2.getD x.2.1.toNat (Ty.zero tTxn)).2.1, ((x.2.2.getD x.2.1.toNat (Ty.zero tTxn)).2.2.1, ((x.2.2.getD x.2.1.toNat (Ty.zero tTxn)).2.2.2.1, (y7.2, (x.2.2.getD x.2.1.toNat (Ty.zero tTxn)).2.2.2.2.2)))))).getD x.2.1.toNat (Ty.zero tTxn)).2.1, (((x.2.2.set x.2.1.toNat ((x.2.2.getD x.2.1.toNat (Ty.zero tTxn)).1, ((x.2.2.getD x.2.1.toNat (Ty.zero tTxn)).2.1, ((x.2.2.getD x.2.1.toNat (Ty.zero tTxn)).2.2.1, ((x.2.2.getD x.2.1.toNat (Ty.zero tTxn)).2.2.2.1, (y7.2, (x.2.2.getD x.2.1.toNat (Ty.zero tTxn)).2.2.2.2.2)))))).getD x.2.1.toNat (Ty.zero tTxn)).2.2.1, (((x.2.2.set x.2.1.toNat ((x.2.2.getD x.2.1.toNat (Ty.zero tTxn)).1, ((x.2.2.getD x.2.1.toNat (Ty.zero tTxn)).2.1, ((x.2.2.getD x.2.1.toNat (Ty.zero tTxn)).2.2.1, ((x.2.2.getD x.2.1.toNat (Ty.zero tTxn)).2.2.2.1, (y7.2, (x.2.2.getD x.2.1.toNat (Ty.zero tTxn)).2.2.2.2.2)))))).getD x.2.1.toNat (Ty.zero tTxn)).2.2.2.1, (((x.2.2.set x.2.1.toNat ((x.2.2.getD x.2.1.toNat (Ty.zero tTxn)).1, ((x.2.2.getD x.2.1.toNat (Ty.zero tTxn)).2.1, ((x.2.2.getD x.2.1.toNat (Ty.zero tTxn)).2.2.1, ((x.2.2.getD x.2.1.toNat (Ty.zero tTxn)).2.2.2.1, (y7.2, (x.2.2.getD x.2.1.toNat (Ty.zero tTxn)).2.2.2.2.2)))))).getD x.2.1.toNat (Ty.zero tTxn)).2.2.2.2.1, (y8.2, ((x.2.2.set x.2.1.toNat ((x.2.2.getD x.2.1.toNat (Ty.zero tTxn)).1, ((x.2.2.getD x.2.1.toNat (Ty.zero tTxn)).2.1, ((x.2.2.getD x.2.1.toNat (Ty.zero tTxn)).2.2.1, ((x.2.2.getD x.2.1.toNat (Ty.zero tTxn)).2.2.2.1, (y7.2, (x.2.2.getD x.2.1.toNat (Ty.zero tTxn)).2.2.2.2.2)))))).getD x.2.1.toNat (Ty.zero tTxn)).2.2.2.2.2.2))))))).getD x.2.1.toNat (Ty.zero tTxn)).2.2.2.2.2.1, (((y8.1.tmod (3 : Int)) == (0 : Int)), (((x.2.2.set x.2.1.toNat ((x.2.2.getD x.2.1.toNat (Ty.zero tTxn)).1, ((x.2.2.getD x.2.1.toNat (Ty.zero tTxn)).2.1, ((x.2.2.getD x.2.1.toNat (Ty.zero tTxn)).2.2.1, ((x.2.2.getD x.2.1.toNat (Ty.zero tTxn)).2.2.2.1, (y7.2, (x.2.2.getD x.2.1.toNat (Ty.zero tTxn)).2.2.2.2.2)))))).set x.2.1.toNat (((x.2.2.set x.2.1.toNat ((x.2.2.getD x.2.1.toNat (Ty.zero tTxn)).1, ((x.2.2.getD x.2.1.toNat (Ty.zero tTxn)).2.1, ((x.2.2.getD x.2.1.toNat (Ty.zero tTxn)).2.2.1, ((x.2.2.getD x.2.1.toNat (Ty.zero tTxn)).2.2.2.1, (y7.2, (x.2.2.getD x.2.1.toNat (Ty.zero tTxn)).2.2.2.2.2)))))).getD x.2.1.toNat (Ty.zero tTxn)).1, (((x.2.2.set x.2.1.toNat ((x.2.2.getD x.2.1.toNat (Ty.zero tTxn)).1, ((x.2.2.getD x.2.1.toNat (Ty.zero tTxn)).2.1, ((x.2.2.getD x.2.1.toNat (Ty.zero tTxn)).2.2.1, ((x.2.2.getD x.2.1.toNat (Ty.zero tTxn)).2.2.2.1, (y7.2, (x.2.2.getD x.2.1.toNat (Ty.zero tTxn)).2.2.2.2.2)))))).getD x.2.1.toNat (Ty.zero tTxn)).2.1, (((x.2.2.set x.2.1.toNat ((x.2.2.getD x.2.1.toNat (Ty.zero tTxn)).1, ((x.2.2.getD x.2.1.toNat (Ty.zero tTxn)).2.1, ((x.2.2.getD x.2.1.toNat (Ty.zero tTxn)).2.2.1, ((x.2.2.getD x.2.1.toNat (Ty.zero tTxn)).2.2.2.1, (y7.2, (x.2.2.getD x.2.1.toNat (Ty.zero tTxn)).2.2.2.2.2)))))).getD x.2.1.toNat (Ty.zero tTxn)).2.2.1, (((x.2.2.set x.2.1.toNat ((x.2.2.getD x.2.1.toNat (Ty.zero tTxn)).1, ((x.2.2.getD x.2.1.toNat (Ty.zero tTxn)).2.1, ((x.2.2.getD x.2.1.toNat (Ty.zero tTxn)).2.2.1, ((x.2.2.getD x.2.1.toNat (Ty.zero tTxn)).2.2.2.1, (y7.2, (x.2.2.getD x.2.1.toNat (Ty.zero tTxn)).2.2.2.2.2)))))).getD x.2.1.toNat (Ty.zero tTxn)).2.2.2.1, (((x.2.2.set x.2.1.toNat ((x.2.2.getD x.2.1.toNat (Ty.zero tTxn)).1, ((x.2.2.getD x.2.1.toNat (Ty.zero tTxn)).2.1, ((x.2.2.getD x.2.1.toNat (Ty.zero tTxn)).2.2.1, ((x.2.2.getD x.2.1.toNat (Ty.zero tTxn)).2.2.2.1, (y7.2, (x.2.2.getD x.2.1.toNat (Ty.zero tTxn)).2.2.2.2.2)))))).getD x.2.1.toNat (Ty.zero tTxn)).2.2.2.2.1, (y8.2, ((x.2.2.set x.2.1.toNat ((x.2.2.getD x.2.1.toNat (Ty.zero tTxn)).1, ((x.2.2.getD x.2.1.toNat (Ty.zero tTxn)).2.1, ((x.2.2.getD x.2.1.toNat (Ty.zero tTxn)).2.2.1, ((x.2.2.getD x.2.1.toNat (Ty.zero tTxn)).2.2.2.1, (y7.2, (x.2.2.getD x.2.1.toNat (Ty.zero tTxn)).2.2.2.2.2)))))).getD x.2.1.toNat (Ty.zero tTxn)).2.2.2.2.2.2))))))).getD x.2.1.toNat (Ty.zero tTxn)).2.2.2.2.2.2.2))))))))) (fun z9 =>
                k (z9.1, z9.2.1, z9.2.2))
            else none)
        else none)
    else none

theorem laws_markTxnS_vd_jp5000011 (x : (Int × Int × (List dTxn))) : Par (laws_markTxnS_vd_j5000011 x) := by
  unfold laws_markTxnS_vd_j5000011
  exact (par_ite (c := 0 ≤ x.2.1 ∧ x.2.1 < (x.2.2.length : Int)) ((laws_markRangeS_vo_p (IntKind.wrap .i64 (x.1 + (1 : Int))) ((x.2.2.getD x.2.1.toNat (Ty.zero tTxn)).2.2.2.2.1)).bind fun y7 => (par_ite (c := 0 ≤ x.2.1 ∧ x.2.1 < ((x.2.2.set x.2.1.toNat ((x.2.2.getD x.2.1.toNat (Ty.zero tTxn)).1, ((x.2.2.getD x.2.1.toNat (Ty.zero tTxn)).2.1, ((x.2.2.getD x.2.1.toNat (Ty.zero tTxn)).2.2.1, ((x.2.2.getD x.2.1.toNat (Ty.zero tTxn)).2.2.2.1, (y7.2, (x.2.2.getD x.2.1.toNat (Ty.zero tTxn)).2.2.2.2.2)))))).length : Int)) ((laws_markWriteS_vo_p y7.1 (((x.2.2.set x.2.1.toNat ((x.2.2.getD x.2.1.toNat (Ty.zero tTxn)).1, ((x.2.2.getD x.2.1.toNat (Ty.zero tTxn)).2.1, ((x.2.2.getD x.2.1.toNat (Ty.zero tTxn)).2.2.1, ((x.2.2.getD x.2.1.toNat (Ty.zero tTxn)).2.2.2.1, (y7.2, (x.2.2.getD x.2.1.toNat (Ty.zero tTxn)).2.2.2.2.2)))))).getD x.2.1.toNat (Ty.zero tTxn)).2.2.2.2.2.1)).bind fun y8 => (par_ite (c := 0 ≤ x.2.1 ∧ x.2.1 < (((x.2.2.set x.2.1.toNat ((x.2.2.getD x.2.1.toNat (Ty.zero tTxn)).1, ((x.2.2.getD x.2.1.toNat (Ty.zero tTxn)).2.1, ((x.2.2.getD x.2.1.toNat (Ty.zero tTxn)).2.2.1, ((x.2.2.getD x.2.1.toNat (Ty.zero tTxn)).2.2.2.1, (y7.2, (x.2.2.getD x.2.1.toNat (Ty.zero tTxn)).2.2.2.2.2)))))).set x.2.1.toNat (((x.2.2.set x.2.1.toNat ((x.2.2.getD x.2.1.toNat (Ty.zero tTxn)).1, ((x.2.2.getD x.2.1.toNat (Ty.zero tTxn)).2.1, ((x.2.2.getD x.2.1.toNat (Ty.zero tTxn)).2.2.1, ((x.2.2.getD x.2.1.toNat (Ty.zero tTxn)).2.2.2.1, (y7.2, (x.2.2.getD x.2.1.toNat (Ty.zero tTxn)).2.2.2.2.2)))))).getD x.2.1.toNat (Ty.zero tTxn)).1, (((x.2.2.set x.2.1.toNat ((x.2.2.getD x.2.1.toNat (Ty.zero tTxn)).1, ((x.2.2.getD x.2.1.toNat (Ty.zero tTxn)).2.1, ((x.2.2.getD x.2.1.toNat (Ty.zero tTxn)).2.2.1, ((x.2.2.getD x.2.1.toNat (Ty.zero tTxn)).2.2.2.1, (y7.2, (x.2.2.getD x.2.1.toNat (Ty.zero tTxn)).2.2.2.2.2)))))).getD x.2.1.toNat (Ty.zero tTxn)).2.1, (((x.2.2.set x.2.1.toNat ((x.2.2.getD x.2.1.toNat (Ty.zero tTxn)).1, ((x.2.2.getD x.2.1.toNat (Ty.zero tTxn)).2.1, ((x.2.2.getD x.2.1.toNat (Ty.zero tTxn)).2.2.1, ((x.2.2.getD x.2.1.toNat (Ty.zero tTxn)).2.2.2.1, (y7.2, (x.2.2.getD x.2.1.toNat (Ty.zero tTxn)).2.2.2.2.2)))))).getD x.2.1.toNat (Ty.zero tTxn)).2.2.1, (((x.2.2.set x.2.1.toNat ((x.2.2.getD x.2.1.toNat (Ty.zero tTxn)).1, ((x.2.2.getD x.2.1.toNat (Ty.zero tTxn)).2.1, ((x.2.2.getD x.2.1.toNat (Ty.zero tTxn)).2.2.1, ((x.2.2.getD x.2.1.toNat (Ty.zero tTxn)).2.2.2.1, (y7.2, (x.2.2.getD x.2.1.toNat (Ty.zero tTxn)).2.2.2.2.2)))))).getD x.2.1.toNat (Ty.zero tTxn)).2.2.2.1, (((x.2.2.set x.2.1.toNat ((x.2.2.getD x.2.1.toNat (Ty.zero tTxn)).1, ((x.2.2.getD x.2.1.toNat (Ty.zero tTxn)).2.1, ((x.2.2.getD x.2.1.toNat (Ty.zero tTxn)).2.2.1, ((x.2.2.getD x.2.1.toNat (Ty.zero tTxn)).2.2.2.1, (y7.2, (x.2.2.getD x.2.1.toNat (Ty.zero tTxn)).2.2.2.2.2)))))).getD x.2.1.toNat (Ty.zero tTxn)).2.2.2.2.1, (y8.2, ((x.2.2.set x.2.1.toNat ((x.2.2.getD x.2.1.toNat (Ty.zero tTxn)).1, ((x.2.2.getD x.2.1.toNat (Ty.zero tTxn)).2.1, ((x.2.2.getD x.2.1.toNat (Ty.zero tTxn)).2.2.1, ((x.2.2.getD x.2.1.toNat (Ty.zero tTxn)).2.2.2.1, (y7.2, (x.2.2.getD x.2.1.toNat (Ty.zero tTxn)).2.2.2.2.2)))))).getD x.2.1.toNat (Ty.zero tTxn)).2.2.2.2.2.2))))))).length : Int)) ((laws_markTxnS_vd_jp5000015 (y8.1, x.2.1, (((x.2.2.set x.2.1.toNat ((x.2.2.getD x.2.1.toNat (Ty.zero tTxn)).1, ((x.2.2.getD x.2.1.toNat (Ty.zero tTxn)).2.1, ((x.2.2.getD x.2.1.toNat (Ty.zero tTxn)).2.2.1, ((x.2.2.getD x.2.1.toNat (Ty.zero tTxn)).2.2.2.1, (y7.2, (x.2.2.getD x.2.1.toNat (Ty.zero tTxn)).2.2.2.2.2)))))).set x.2.1.toNat (((x.2.2.set x.2.1.toNat ((x.2.2.getD x.2.1.toNat (Ty.zero tTxn)).1, ((x.2.2.getD x.2.1.toNat (Ty.zero tTxn)).2.1, ((x.2.2.getD x.2.1.toNat (Ty.zero tTxn)).2.2.1, ((x.2.2.getD x.2.1.toNat (Ty.zero tTxn)).2.2.2.1, (y7.2, (x.2.2.getD x.2.1.toNat (Ty.zero tTxn)).2.2.2.2.2)))))).getD x.2.1.toNat (Ty.zero tTxn)).1, (((x.2.2.set x.2.1.toNat ((x.2.2.getD x.2.1.toNat (Ty.zero tTxn)).1, ((x.2.2.getD x.2.1.toNat (Ty.zero tTxn)).2.1, ((x.2.2.getD x.2.1.toNat (Ty.zero tTxn)).2.2.1, ((x.2.2.getD x.2.1.toNat (Ty.zero tTxn)).2.2.2.1, (y7.2, (x.2.2.getD x.2.1.toNat (Ty.zero tTxn)).2.2.2.2.2)))))).getD x.2.1.toNat (Ty.zero tTxn)).2.1, (((x.2.2.set x.2.1.toNat ((x.2.2.getD x.2.1.toNat (Ty.zero tTxn)).1, ((x.2.2.getD x.2.1.toNat (Ty.zero tTxn)).2.1, ((x.2.2.getD x.2.1.toNat (Ty.zero tTxn)).2.2.1, ((x.2.2.getD x.2.1.toNat (Ty.zero tTxn)).2.2.2.1, (y7.2, (x.2.2.getD x.2.1.toNat (Ty.zero tTxn)).2.2.2.2.2)))))).getD x.2.1.toNat (Ty.zero tTxn)).2.2.1, (((x.2.2.set x.2.1.toNat ((x.2.2.getD x.2.1.toNat (Ty.zero tTxn)).1, ((x.2.2.getD x.2.1.toNat (Ty.zero tTxn)).2.1, ((x.2.2.getD x.2.1.toNat (Ty.zero tTxn)).2.2.1, ((x.2.2.getD x.2.1.toNat (Ty.zero tTxn)).2.2.2.1, (y7.2, (x.2.2.getD x.2.1.toNat (Ty.zero tTxn)).2.2.2.2.2)))))).getD x.2.1.toNat (Ty.zero tTxn)).2.2.2.1, (((x.2.2.set x.2.1.toNat ((x.2.2.getD x.2.1.toNat (Ty.zero tTxn)).1, ((x.2.2.getD x.2.1.toNat (Ty.zero tTxn)).2.1, ((x.2.2.getD x.2.1.toNat (Ty.zero tTxn)).2.2.1, ((x.2.2.getD x.2.1.toNat (Ty.zero tTxn)).2.2.2.1, (y7.2, (x.2.2.getD x.2.1.toNat (Ty.zero tTxn)).2.2.2.2.2)))))).getD x.2.1.toNat (Ty.zero tTxn)).2.2.2.2.1, (y8.2, ((x.2.2.set x.2.1.toNat ((x.2.2.getD x.2.1.toNat (Ty.zero tTxn)).1, ((x.2.2.getD x.2.1.toNat (Ty.zero tTxn)).2.1, ((x.2.2.getD x.2.1.toNat (Ty.zero tTxn)).2.2.1, ((x.2.2.getD x.2.1.toNat (Ty.zero tTxn)).2.2.2.1, (y7.2, (x.2.2.getD x.2.1.toNat (Ty.zero tTxn)).2.2.2.2.2)))))).getD x.2.1.toNat (Ty.zero tTxn)).2.2.2.2.2.2))))))).set x.2.1.toNat ((((x.2.2.set x.2.1.toNat ((x.2.2.getD x.2.1.toNat (Ty.zero tTxn)).1, ((x.2.2.getD x.2.1.toNat (Ty.zero tTxn)).2.1, ((x.2.2.getD x.2.1.toNat (Ty.zero tTxn)).2.2.1, ((x.2.2.getD x.2.1.toNat (Ty.zero tTxn)).2.2.2.1, (y7.2, (x.2.2.getD x.2.1.toNat (Ty.zero tTxn)).2.2.2.2.2)))))).set x.2.1.toNat (((x.2.2.set x.2.1.toNat ((x.2.2.getD x.2.1.toNat (Ty.zero tTxn)).1, ((x.2.2.getD x.2.1.toNat (Ty.zero tTxn)).2.1, ((x.2.2.getD x.2.1.toNat (Ty.zero tTxn)).2.2.1, ((x.2.2.getD x.2.1.toNat (Ty.zero tTxn)).2.2.2.1, (y7.2, (x.2.2.getD x.2.1.toNat (Ty.zero tTxn)).2.2.2.2.2)))))).getD x.2.1.toNat (Ty.zero tTxn)).1, (((x.2.2.set x.2.1.toNat ((x.2.2.getD x.2.1.toNat (Ty.zero tTxn)).1, ((x.2.2.getD x.2.1.toNat (Ty.zero tTxn)).2.1, ((x.2.2.getD x.2.1.toNat (Ty.zero tTxn)).2.2.1, ((x.2.2.getD x.2.1.toNat (Ty.zero tTxn)).2.2.2.1, (y7.2, (x.2.2.getD x.2.1.toNat (Ty.zero tTxn)).2.2.2.2.2)))))).getD x.2.1.toNat (Ty.zero tTxn)).2.1, (((x.2.2.set x.2.1.toNat ((x.2.2.getD x.2.1.toNat (Ty.zero tTxn)).1, ((x.2.2.getD x.2.1.toNat (Ty.zero tTxn)).2.1, ((x.2.2.getD x.2.1.toNat (Ty.zero tTxn)).2.2.1, ((x.2.2.getD x.2.1.toNat (Ty.zero tTxn)).2.2.2.1, (y7.2, (x.2.2.getD x.2.1.toNat (Ty.zero tTxn)).2.2.2.2.2)))))).getD x.2.1.toNat (Ty.zero tTxn)).2.2.1, (((x.2.2.set x.2.1.toNat ((x.2.2.getD x.2.1.toNat (Ty.zero tTxn)).1, ((x.2.2.getD x.2.1.toNat (Ty.zero tTxn)).2.1, ((x.2.2.getD x.2.1.toNat (Ty.zero tTxn)).2.2.1, ((x.2.2.getD x.2.1.toNat (Ty.zero tTxn)).2.2.2.1, (y7.2, (x.2.2.getD x.2.1.toNat (Ty.zero tTxn)).2.2.2.2.2)))))).getD x.2.1.toNat (Ty.zero tTxn)).2.2.2.1, (((x.2.2.set x.2.1.toNat ((x.2.2.getD x.2.1.toNat (Ty.zero tTxn)).1, ((x.2.2.getD x.2.1.toNat (Ty.zero tTxn)).2.1, ((x.2.2.getD x.2.1.toNat (Ty.zero tTxn)).2.2.1, ((x.2.2.getD x.2.1.toNat (Ty.zero tTxn)).2.2.2.1, (y7.2, (x.2.2.getD x.2.1.toNat (Ty.zero tTxn)).2.2.2.2.2)))))).getD x.2.1.toNat (Ty.zero tTxn)).2.2.2.2.1, (y8.2, ((x.2.2.set x.2.1.toNat ((x.2.2.getD x.2.1.toNat (Ty.zero tTxn)).1, ((x.2.2.getD x.2.1.toNat (Ty.zero tTxn)).2.1, ((x.2.2.getD x.2.1.toNat (Ty.zero tTxn)).2.2.1, ((x.2.2.getD x.2.1.toNat (Ty.zero tTxn)).2.2.2.1, (y7.2, (x.2.2.getD x.2.1.toNat (Ty.zero tTxn)).2.2.2.2.2)))))).getD x.2.1.toNat (Ty.zero tTxn)).2.2.2.2.2.2))))))).getD x.2.1.toNat (Ty.zero tTxn)).1, ((((x.2.2.set x.2.1.toNat ((x.2.2.getD x.2.1.toNat (Ty.zero tTxn)).1, ((x.2.2.getD x.2.1.toNat (Ty.zero tTxn)).2.1, ((x.2.2.getD x.2.1.toNat (Ty.zero tTxn)).2.2.1, ((x.2.2.getD x.2.1.toNat (Ty.zero tTxn)).2.2.2.1, (y7.2, (x.2.2.getD x.2.1.toNat (Ty.zero tTxn)).2.2.2.2.2)))))).set x.2.1.toNat (((x.2.2.set x.2.1.toNat ((x.2.2.getD x.2.1.toNat (Ty.zero tTxn)).1, ((x.2.2.getD x.2.1.toNat (Ty.zero tTxn)).2.1, ((x.2.2.getD x.2.1.toNat (Ty.zero tTxn)).2.2.1, ((x.2.2.getD x.2.1.toNat (Ty.zero tTxn)).2.2.2.1, (y7.2, (x.2.2.getD x.2.1.toNat (Ty.zero tTxn)).2.2.2.2.2)))))).getD x.2.1.toNat (Ty.zero tTxn)).1, (((x.2.2.set x.2.1.toNat ((x.2.2.getD x.2.1.toNat (Ty.zero tTxn)).1, ((x.2.2.getD x.2.1.toNat (Ty.zero tTxn)).2.1, ((x.2.2.getD x.2.1.toNat (Ty.zero tTxn)).2.2.1, ((x.2.2.getD x.2.1.toNat (Ty.zero tTxn)).2.2.2.1, (y7.2, (x.2.2.getD x.2.1.toNat (Ty.zero tTxn)).2.2.2.2.2)))))).getD x.2.1.toNat (Ty.zero tTxn)).2.1, (((x.2.2.set x.2.1.toNat ((x.2.2.getD x.2.1.toNat (Ty.zero tTxn)).1, ((x.2.2.getD x.2.1.toNat (Ty.zero tTxn)).2.1, ((x.2.2.getD x.2.1.toNat (Ty.zero tTxn)).2.2.1, ((x.2.2.getD x.2.1.toNat (Ty.zero tTxn)).2.2.2.1, (y7.2, (x.2.2.getD x.2.1.toNat (Ty.zero tTxn)).2.2.2.2.2)))))).getD x.2.1.toNat (Ty.zero tTxn)).2.2.1, (((x.2.2.set x.2.1.toNat ((x.2.2.getD x.2.1.toNat (Ty.zero tTxn)).1, ((x.2.2.getD x.2.1.toNat (Ty.zero tTxn)).2.1, ((x.2.2.getD x.2.1.toNat (Ty.zero tTxn)).2.2.1, ((x.2.2.getD x.2.1.toNat (Ty.zero tTxn)).2.2.2.1, (y7.2, (x.2.2.getD x.2.1.toNat (Ty.zero tTxn)).2.2.2.2.2)))))).getD x.2.1.toNat (Ty.zero tTxn)).2.2.2.1, (((x.2.2.set x.2.1.toNat ((x.2.2.getD x.2.1.toNat (Ty.zero tTxn)).1, ((x.2.2.getD x.2.1.toNat (Ty.zero tTxn)).2.1, ((x.2.2.getD x.2.1.toNat (Ty.zero tTxn)).2.2.1, ((x.2.2.getD x.2.1.toNat (Ty.zero tTxn)).2.2.2.1, (y7.2, (x.2.2.getD x.2.1.toNat (Ty.zero tTxn)).2.2.2.2.2)))))).getD x.2.1.toNat (Ty.zero tTxn)).2.2.2.2.1, (y8.2, ((x.2.2.set x.2.1.toNat ((x.2.2.getD x.2.1.toNat (Ty.zero tTxn)).1, ((x.2.2.getD x.2.1.toNat (Ty.zero tTxn)).2.1, ((x.2.2.getD x.2.1.toNat (Ty.zero tTxn)).2.2.1, ((x.2.2.getD x.2.1.toNat (Ty.zero tTxn)).2.2.2.1, (y7.2, (x.2.2.getD x.2.1.toNat (Ty.zero tTxn)).2.2.2.2.2)))))).getD x.2.1.toNat (Ty.zero tTxn)).2.2.2.2.2.2))))))).getD x.2.1.toNat (Ty.zero tTxn)).2.1, ((((x.2.2.set x.2.1.toNat ((x.2.2.getD x.2.1.toNat (Ty.zero tTxn)).1, ((x.2.2.getD x.2.1.toNat (Ty.zero tTxn)).2.1, ((x.2.2.getD x.2.1.toNat (Ty.zero tTxn)).2.2.1, ((x.2.2.getD x.2.1.toNat (Ty.zero tTxn)).2.2.2.1, (y7.2, (x.2.2.getD x.2.1.toNat (Ty.zero tTxn)).2.2.2.2.2)))))).set x.2.1.toNat (((x.2.2.set x.2.1.toNat ((x.2.2.getD x.2.1.toNat (Ty.zero tTxn)).1, ((x.2.2.getD x.2.1.toNat (Ty.zero tTxn)).2.1, ((x.2.2.getD x.2.1.toNat (Ty.zero tTxn)).2.2.1, ((x.2.2.getD x.2.1.toNat (Ty.zero tTxn)).2.2.2.1, (y7.2, (x.2.2.getD x.2.1.toNat (Ty.zero tTxn)).2.2.2.2.2)))))).getD x.2.1.toNat (Ty.zero tTxn)).1, (((x.2.2.set x.2.1.toNat ((x.2.2.getD x.2.1.toNat (Ty.zero tTxn)).1, ((x.2.2.getD x.2.1.toNat (Ty.zero tTxn)).2.1, ((x.2.2.getD x.2.1.toNat (Ty.zero tTxn)).2.2.1, ((x.2.2.getD x.2.1.toNat (Ty.zero tTxn)).2.2.2.1, (y7.2, (x.2.2.getD x.2.1.toNat (Ty.zero tTxn)).2.2.2.2.2)))))).getD x.2.1.toNat (Ty.zero tTxn)).2.1, (((x.2.2.set x.2.1.toNat ((x.2.2.getD x.2.1.toNat (Ty.zero tTxn)).1, ((x.2.2.getD x.2.1.toNat (Ty.zero tTxn)).2.1, ((x.2.2.getD x.2.1.toNat (Ty.zero tTxn)).2.2.1, ((x.2.2.getD x.2.1.toNat (Ty.zero tTxn)).2.2.2.1, (y7.2, (x.2.2.getD x.2.1.toNat (Ty.zero tTxn)).2.2.2.2.2)))))).getD x.2.1.toNat (Ty.zero tTxn)).2.2.1, (((x.2.2.set x.2.1.toNat ((x.2.2.getD x.2.1.toNat (Ty.zero tTxn)).1, ((x.2.2.getD x.2.1.toNat (Ty.zero tTxn)).2.1, ((x.2.2.getD x.2.1.toNat (Ty.zero tTxn)).2.2.1, ((x.2.2.getD x.2.1.toNat (Ty.zero tTxn)).2.2.2.1, (y7.2, (x.2.2.getD x.2.1.toNat (Ty.zero tTxn)).2.2.2.2.2)))))).getD x.2.1.toNat (Ty.zero tTxn)).2.2.2.1, (((x.2.2.set x.2.1.toNat ((x.2.2.getD x.2.1.toNat (Ty.zero tTxn)).1, ((x.2.2.getD x.2.1.toNat (Ty.zero tTxn)).2.1, ((x.2.2.getD x.2.1.toNat (Ty.zero tTxn)).2.2.1, ((x.2.2.getD x.2.1.toNat (Ty.zero tTxn)).2.2.2.1, (y7.2, (x.2.2.getD x.2.1.toNat (Ty.zero tTxn)).2.2.2.2.2)))))).getD x.2.1.toNat (Ty.zero tTxn)).2.2.2.2.1, (y8.2, ((x.2.2.set x.2.1.toNat ((x.2.2.getD x.2.1.toNat (Ty.zero tTxn)).1, ((x.2.2.getD x.2.1.toNat (Ty.zero tTxn)).2.1, ((x.2.2.getD x.2.1.toNat (Ty.zero tTxn)).2.2.1, ((x.2.2.getD x.2.1.toNat (Ty.zero tTxn)).2.2.2.1, (y7.2, (x.2.2.getD x.2.1.toNat (Ty.zero tTxn)).2.2.2.2.2)))))).getD x.2.1.toNat (Ty.zero tTxn)).2.2.2.2.2.2))))))).getD x.2.1.toNat (Ty.zero tTxn)).2.2.1, ((((x.2.2.set x.2.1.toNat ((x.2.2.getD x.2.1.toNat (Ty.zero tTxn)).1, ((x.2.2.getD x.2.1.toNat (Ty.zero tTxn)).2.1, ((x.2.2.getD x.2.1.toNat (Ty.zero tTxn)).2.2.1, ((x.2.2.getD x.2.1.toNat (Ty.zero tTxn)).2.2.2.1, (y7.2, (x.2.2.getD x.2.1.toNat (Ty.zero tTxn)).2.2.2.2.2)))))).set x.2.1.toNat (((x.2.2.set x.2.1.toNat ((x.2.2.getD x.2.1.toNat (Ty.zero tTxn)).1, ((x.2.2.getD x.2.1.toNat (Ty.zero tTxn)).2.1, ((x.2.2.getD x.2.1.toNat (Ty.zero tTxn)).2.2.1, ((x.2.2.getD x.2.1.toNat (Ty.zero tTxn)).2.2.2.1, (y7.2, (x.2.2.getD x.2.1.toNat (Ty.zero tTxn)).2.2.2.2.2)))))).getD x.2.1.toNat (Ty.zero tTxn)).1, (((x.2.2.set x.2.1.toNat ((x.2.2.getD x.2.1.toNat (Ty.zero tTxn)).1, ((x.2.2.getD x.2.1.toNat (Ty.zero tTxn)).2.1, ((x.2.2.getD x.2.1.toNat (Ty.zero tTxn)).2.2.1, ((x.2.2.getD x.2.1.toNat (Ty.zero tTxn)).2.2.2.1, (y7.2, (x.2.2.getD x.2.1.toNat (Ty.zero tTxn)).2.2.2.2.2)))))).getD x.2.1.toNat (Ty.zero tTxn)).2.1, (((x.2.2.set x.2.1.toNat ((x.2.2.getD x.2.1.toNat (Ty.zero tTxn)).1, ((x.2.2.getD x.2.1.toNat (Ty.zero tTxn)).2.1, ((x.2.2.getD x.2.1.toNat (Ty.zero tTxn)).2.2.1, ((x.2.2.getD x.2.1.toNat (Ty.zero tTxn)).2.2.2.1, (y7.2, (x.2.2.getD x.2.1.toNat (Ty.zero tTxn)).2.2.2.2.2)))))).getD x.2.1.toNat (Ty.zero tTxn)).2.2.1, (((x.2.2.set x.2.1.toNat ((x.2.2.getD x.2.1.toNat (Ty.zero tTxn)).1, ((x.2.2.getD x.2.1.toNat (Ty.zero tTxn)).2.1, ((x.2.2.getD x.2.1.toNat (Ty.zero tTxn)).2.2.1, ((x.2.2.getD x.2.1.toNat (Ty.zero tTxn)).2.2.2.1, (y7.2, (x.2.2.getD x.2.1.toNat (Ty.zero tTxn)).2.2.2.2.2)))))).getD x.2.1.toNat (Ty.zero tTxn)).2.2.2.1, (((x.2.2.set x.2.1.toNat ((x.2.2.getD x.2.1.toNat (Ty.zero tTxn)).1, ((x.2.2.getD x.2.1.toNat (Ty.zero tTxn)).2.1, ((x.2.2.getD x.2.1.toNat (Ty.zero tTxn)).2.2.1, ((x.2.2.getD x.2.1.toNat (Ty.zero tTxn)).2.2.2.1, (y7.2, (x.2.2.getD x.2.1.toNat (Ty.zero tTxn)).2.2.2.2.2)))))).getD x.2.1.toNat (Ty.zero tTxn)).2.2.2.2.1, (y8.2, ((x.2.2.set x.2.1.toNat ((x.2.2.getD x.2.1.toNat (Ty.zero tTxn)).1, ((x.2.2.getD x.2.1.toNat (Ty.zero tTxn)).2.1, ((x.2.2.getD x.2.1.toNat (Ty.zero tTxn)).2.2.1, ((x.2.2.getD x.2.1.toNat (Ty.zero tTxn)).2.2.2.1, (y7.2, (x.2.2.getD x.2.1.toNat (Ty.zero tTxn)).2.2.2.2.2)))))).getD x.2.1.toNat (Ty.zero tTxn)).2.2.2.2.2.2))))))).getD x.2.1.toNat (Ty.zero tTxn)).2.2.2.1, ((((x.2.2.set x.2.1.toNat ((x.2.2.getD x.2.1.toNat (Ty.zero tTxn)).1, ((x.2.2.getD x.2.1.toNat (Ty.zero tTxn)).2.1, ((x.2.2.getD x.2.1.toNat (Ty.zero tTxn)).2.2.1, ((x.2.2.getD x.2.1.toNat (Ty.zero tTxn)).2.2.2.1, (y7.2, (x.2.2.getD x.2.1.toNat (Ty.zero tTxn)).2.2.2.2.2)))))).set x.2.1.toNat (((x.2.2.set x.2.1.toNat ((x.2.2.getD x.2.1.toNat (Ty.zero tTxn)).1, ((x.2.2.getD x.2.1.toNat (Ty.zero tTxn)).2.1, ((x.2.2.getD x.2.1.toNat (Ty.zero tTxn)).2.2.1, ((x.2.2.getD x.2.1.toNat (Ty.zero tTxn)).2.2.2.1, (y7.2, (x.2.2.getD x.2.1.toNat (Ty.zero tTxn)).2.2.2.2.2)))))).getD x.2.1.toNat (Ty.zero tTxn)).1, (((x.2.2.set x.2.1.toNat ((x.2.2.getD x.2.1.toNat (Ty.zero tTxn)).1, ((x.2.2.getD x.2.1.toNat (Ty.zero tTxn)).2.1, ((x.2.2.getD x.2.1.toNat (Ty.zero tTxn)).2.2.1, ((x.2.2.getD x.2.1.toNat (Ty.zero tTxn)).2.2.2.1, (y7.2, (x.2.2.getD x.2.1.toNat (Ty.zero tTxn)).2.2.2.2.2)))))).getD x.2.1.toNat (Ty.zero tTxn)).2.1, (((x.2.2.set x.2.1.toNat ((x.2.2.getD x.2.1.toNat (Ty.zero tTxn)).1, ((x.2.2.getD x.2.1.toNat (Ty.zero tTxn)).2.1, ((x.2.2.getD x.2.1.toNat (Ty.zero tTxn)).2.2.1, ((x.2.2.getD x.2.1.toNat (Ty.zero tTxn)).2.2.2.1, (y7.2, (x.2.2.getD x.2.1.toNat (Ty.zero tTxn)).2.2.2.2.2)))))).getD x.2.1.toNat (Ty.zero tTxn)).2.2.1, (((x.2.2.set x.2.1.toNat ((x.2.2.getD x.2.1.toNat (Ty.zero tTxn)).1, ((x.2.2.getD x.2.1.toNat (Ty.zero tTxn)).2.1, ((x.2.2.getD x.2.1.toNat (Ty.zero tTxn)).2.2.1, ((x.2.2.getD x.2.1.toNat (Ty.zero tTxn)).2.2.2.1, (y7.2, (x.2.2.getD x.2.1.toNat (Ty.zero tTxn)).2.2.2.2.2)))))).getD x.2.1.toNat (Ty.zero tTxn)).2.2.2.1, (((x.2.2.set x.2.1.toNat ((x.2.2.getD x.2.1.toNat (Ty.zero tTxn)).1, ((x.2.2.getD x.2.1.toNat (Ty.zero tTxn)).2.1, ((x.2.2.getD x.2.1.toNat (Ty.zero tTxn)).2.2.1, ((x.2.2.getD x.2.1.toNat (Ty.zero tTxn)).2.2.2.1, (y7.2, (x.2.2.getD x.2.1.toNat (Ty.zero tTxn)).2.2.2.2.2)))))).getD x.2.1.toNat (Ty.zero tTxn)).2.2.2.2.1, (y8.2, ((x.2.2.set x.2.1.toNat ((x.2.2.getD x.2.1.toNat (Ty.zero tTxn)).1, ((x.2.2.getD x.2.1.toNat (Ty.zero tTxn)).2.1, ((x.2.2.getD x.2.1.toNat (Ty.zero tTxn)).2.2.1, ((x.2.2.getD x.2.1.toNat (Ty.zero tTxn)).2.2.2.1, (y7.2, (x.2.2.getD x.2.1.toNat (Ty.zero tTxn)).2.2.2.2.2)))))).getD x.2.1.toNat (Ty.zero tTxn)).2.2.2.2.2.2))))))).getD x.2.1.toNat (Ty.zero tTxn)).2.2.2.2.1, ((((x.2.2.set x.2.1.toNat ((x.2.2.getD x.2.1.toNat (Ty.zero tTxn)).1, ((x.2.2.getD x.2.1.toNat (Ty.zero tTxn)).2.1, ((x.2.2.getD x.2.1.toNat (Ty.zero tTxn)).2.2.1, ((x.2.2.getD x.2.1.toNat (Ty.zero tTxn)).2.2.2.1, (y7.2, (x.2.2.getD x.2.1.toNat (Ty.zero tTxn)).2.2.2.2.2)))))).set x.2.1.toNat (((x.2.2.set x.2.1.toNat ((x.2.2.getD x.2.1.toNat (Ty.zero tTxn)).1, ((x.2.2.getD x.2.1.toNat (Ty.zero tTxn)).2.1, ((x.2.2.getD x.2.1.toNat (Ty.zero tTxn)).2.2.1, ((x.2.2.getD x.2.1.toNat (Ty.zero tTxn)).2.2.2.1, (y7.2, (x.2.2.getD x.2.1.toNat (Ty.zero tTxn)).2.2.2.2.2)))))).getD x.2.1.toNat (Ty.zero tTxn)).1, (((x.2.2.set x.2.1.toNat ((x.2.2.getD x.2.1.toNat (Ty.zero tTxn)).1, ((x.2.2.getD x.2.1.toNat (Ty.zero tTxn)).2.1, ((x.2.2.getD x.2.1.toNat (Ty.zero tTxn)).2.2.1, ((x.2.2.getD x.2.1.toNat (Ty.zero tTxn)).2.2.2.1, (y7.2, (x.2.2.getD x.2.1.toNat (Ty.zero tTxn)).2.2.2.2.2)))))).getD x.2.1.toNat (Ty.zero tTxn)).2.1, (((x.2.2.set x.2.1.toNat ((x.2.2.getD x.2.1.toNat (Ty.zero tTxn)).1, ((x.2.2.getD x.2.1.toNat (Ty.zero tTxn)).2.1, ((x.2.2.getD x.2.1.toNat (Ty.zero tTxn)).2.2.1, ((x.2.2.getD x.2.1.toNat (Ty.zero tTxn)).2.2.2.1, (y7.2, (x.2.2.getD x.2.1.toNat (Ty.zero tTxn)).2.2.2.2.2)))))).getD x.2.1.toNat (Ty.zero tTxn)).2.2.1, (((x.2.2.set x.2.1.toNat ((x.2.2.getD x.2.1.toNat (Ty.zero tTxn)).1, ((x.2.2.getD x.2.1.toNat (Ty.zero tTxn)).2.1, ((x.2.2.getD x.2.1.toNat (Ty.zero tTxn)).2.2.1, ((x.2.2.getD x.2.1.toNat (Ty.zero tTxn)).2.2.2.1, (y7.2, (x.2.2.getD x.2.1.toNat (Ty.zero tTxn)).2.2.2.2.2)))))).getD x.2.1.toNat (Ty.zero tTxn)).2.2.2.1, (((x.2.2.set x.2.1.toNat ((x.2.2.getD x.2.1.toNat (Ty.zero tTxn)).1, ((x.2.2.getD x.2.1.toNat (Ty.zero tTxn)).2.1, ((x.2.2.getD x.2.1.toNat (Ty.zero tTxn)).2.2.1, ((x.2.2.getD x.2.1.toNat (Ty.zero tTxn)).2.2.2.1, (y7.2, (x.2.2.getD x.2.1.toNat (Ty.zero tTxn)).2.2.2.2.2)))))).getD x.2.1.toNat (Ty.zero tTxn)).2.2.2.2.1, (y8.2, ((x.2.2.set x.2.1.toNat ((x.2.2.getD x.2.1.toNat (Ty.zero tTxn)).1, ((x.2.2.getD x.2.1.toNat (Ty.zero tTxn)).2.1, ((x.2.2.getD x.2.1.toNat (Ty.zero tTxn)).2.2.1, ((x.2.2.getD x.2.1.toNat (Ty.zero tTxn)).2.2.2.1, (y7.2, (x.2.2.getD x.2.1.toNat (Ty.zero tTxn)).2.2.2.2.2)))))).getD x.2.1.toNat (Ty.zero tTxn)).2.2.2.2.2.2))))))).getD x.2.1.toNat (Ty.zero tTxn)).2.2.2.2.2.1, (((y8.1.tmod (3 : Int)) == (0 : Int)), (((x.2.2.set x.2.1.toNat ((x.2.2.getD x.2.1.toNat (Ty.zero tTxn)).1, ((x.2.2.getD x.2.1.toNat (Ty.zero tTxn)).2.1, ((x.2.2.getD x.2.1.toNat (Ty.zero tTxn)).2.2.1, ((x.2.2.getD x.2.1.toNat (Ty.zero tTxn)).2.2.2.1, (y7.2, (x.2.2.getD x.2.1.toNat (Ty.zero tTxn)).2.2.2.2.2)))))).set x.2.1.toNat (((x.2.2.set x.2.1.toNat ((x.2.2.getD x.2.1.toNat (Ty.zero tTxn)).1, ((x.2.2.getD x.2.1.toNat (Ty.zero tTxn)).2.1, ((x.2.2.getD x.2.1.toNat (Ty.zero tTxn)).2.2.1, ((x.2.2.getD x.2.1.toNat (Ty.zero tTxn)).2.2.2.1, (y7.2, (x.2.2.getD x.2.1.toNat (Ty.zero tTxn)).2.2.2.2.2)))))).getD x.2.1.toNat (Ty.zero tTxn)).1, (((x.2.2.set x.2.1.toNat ((x.2.2.getD x.2.1.toNat (Ty.zero tTxn)).1, ((x.2.2.getD x.2.1.toNat (Ty.zero tTxn)).2.1, ((x.2.2.getD x.2.1.toNat (Ty.zero tTxn)).2.2.1, ((x.2.2.getD x.2.1.toNat (Ty.zero tTxn)).2.2.2.1, (y7.2, (x.2.2.getD x.2.1.toNat (Ty.zero tTxn)).2.2.2.2.2)))))).getD x.2.1.toNat (Ty.zero tTxn)).2.1, (((x.2.2.set x.2.1.toNat ((x.2.2.getD x.2.1.toNat (Ty.zero tTxn)).1, ((x.2.2.getD x.2.1.toNat (Ty.zero tTxn)).2.1, ((x.2.2.getD x.2.1.toNat (Ty.zero tTxn)).2.2.1, ((x.2.2.getD x.2.1.toNat (Ty.zero tTxn)).2.2.2.1, (y7.2, (x.2.2.getD x.2.1.toNat (Ty.zero tTxn)).2.2.2.2.2)))))).getD x.2.1.toNat (Ty.zero tTxn)).2.2.1, (((x.2.2.set x.2.1.toNat ((x.2.2.getD x.2.1.toNat (Ty.zero tTxn)).1, ((x.2.2.getD x.2.1.toNat (Ty.zero tTxn)).2.1, ((x.2.2.getD x.2.1.toNat (Ty.zero tTxn)).2.2.1, ((x.2.2.getD x.2.1.toNat (Ty.zero tTxn)).2.2.2.1, (y7.2, (x.2.2.getD x.2.1.toNat (Ty.zero tTxn)).2.2.2.2.2)))))).getD x.2.1.toNat (Ty.zero tTxn)).2.2.2.1, (((x.2.2.set x.2.1.toNat ((x.2.2.getD x.2.1.toNat (Ty.zero tTxn)).1, ((x.2.2.getD x.2.1.toNat (Ty.zero tTxn)).2.1, ((x.2.2.getD x.2.1.toNat (Ty.zero tTxn)).2.2.1, ((x.2.2.getD x.2.1.toNat (Ty.zero tTxn)).2.2.2.1, (y7.2, (x.2.2.getD x.2.1.toNat (Ty.zero tTxn)).2.2.2.2.2)))))).getD x.2.1.toNat (Ty.zero tTxn)).2.2.2.2.1, (y8.2, ((x.2.2.set x.2.1.toNat ((x.2.2.getD x.2.1.toNat (Ty.zero tTxn)).1, ((x.2.2.getD x.2.1.toNat (Ty.zero tTxn)).2.1, ((x.2.2.getD x.2.1.toNat (Ty.zero tTxn)).2.2.1, ((x.2.2.getD x.2.1.toNat (Ty.zero tTxn)).2.2.2.1, (y7.2, (x.2.2.getD x.2.1.toNat (Ty.zero tTxn)).2.2.2.2.2)))))).getD x.2.1.toNat (Ty.zero tTxn)).2.2.2.2.2.2))))))).getD x.2.1.toNat (Ty.zero tTxn)).2.2.2.2.2.2.2)))))))))).bind fun z9 => (par_ret _)) par_none)) par_none)) par_none)

def laws_markTxnS_vd_j5000009 (x : (Int × Int × (List dTxn))) (k : (Int × Int × (List dTxn)) → Option Res) : Option Res :=
    if 0 ≤ x.2.1 ∧ x.2.1 < (x.2.2.length : Int) then
      laws_markTxnS_vd_j5000011 ((IntKind.wrap .i64 (x.1 + (1 : Int))), x.2.1, (x.2.2.set x.2.1.toNat ((x.2.2.getD x.2.1.toNat (Ty.zero tTxn)).1, ((x.2.2.getD x.2.1.toNat (Ty.zero tTxn)).2.1, ((x.2.2.getD x.2.1.toNat (Ty.zero tTxn)).2.2.1, ((IntKind.wrap .i64 (x.1 + (1 : Int))), (x.2.2.getD x.2.1.toNat (Ty.zero tTxn)).2.2.2.2)))))) (fun z6 =>
        k (z6.1, z6.2.1, z6.2.2))
    else none

theorem laws_markTxnS_vd_jp5000009 (x : (Int × Int × (List dTxn))) : Par (laws_markTxnS_vd_j5000009 x) := by
  unfold laws_markTxnS_vd_j5000009
  exact (par_ite (c := 0 ≤ x.2.1 ∧ x.2.1 < (x.2.2.length : Int)) ((laws_markTxnS_vd_jp5000011 ((IntKind.wrap .i64 (x.1 + (1 : Int))), x.2.1, (x.2.2.set x.2.1.toNat ((x.2.2.getD x.2.1.toNat (Ty.zero tTxn)).1, ((x.2.2.getD x.2.1.toNat (Ty.zero tTxn)).2.1, ((x.2.2.getD x.2.1.toNat (Ty.zero tTxn)).2.2.1, ((IntKind.wrap .i64 (x.1 + (1 : Int))), (x.2.2.getD x.2.1.toNat (Ty.zero tTxn)).2.2.2.2))))))).bind fun z6 => (par_ret _)) par_none)

def laws_markTxnS_vd_j5000007 (x : (Int × Int × (List dTxn))) (k : (Int × Int × (List dTxn)) → Option Res) : Option Res :=
    if 0 ≤ x.2.1 ∧ x.2.1 < (x.2.2.length : Int) then
      laws_markTxnS_vd_j5000009 ((IntKind.wrap .i64 (x.1 + (1 : Int))), x.2.1, (x.2.2.set x.2.1.toNat ((x.2.2.getD x.2.1.toNat (Ty.zero tTxn)).1, ((x.2.2.getD x.2.1.toNat (Ty.zero tTxn)).2.1, ((IntKind.wrap .i64 (x.1 + (1 : Int))), (x.2.2.getD x.2.1.toNat (Ty.zero tTxn)).2.2.2))))) (fun z5 =>
        k (z5.1, z5.2.1, z5.2.2))
    else none

theorem laws_markTxnS_vd_jp5000007 (x : (Int × Int × (List dTxn))) : Par (laws_markTxnS_vd_j5000007 x) := by
  unfold laws_markTxnS_vd_j5000007
  exact (par_ite (c := 0 ≤ x.2.1 ∧ x.2.1 < (x.2.2.length : Int)) ((laws_markTxnS_vd_jp5000009 ((IntKind.wrap .i64 (x.1 + (1 : Int))), x.2.1, (x.2.2.set x.2.1.toNat ((x.2.2.getD x.2.1.toNat (Ty.zero tTxn)).1, ((x.2.2.getD x.2.1.toNat (Ty.zero tTxn)).2.1, ((IntKind.wrap .i64 (x.1 + (1 : Int))), (x.2.2.getD x.2.1.toNat (Ty.zero tTxn)).2.2.2)))))).bind fun z5 => (par_ret _)) par_none)

def laws_markTxnS_vd_j5000005 (x : (Int × Int × (List dTxn))) (k : (Int × Int × (List dTxn)) → Option Res) : Option Res :=
    if 0 ≤ x.2.1 ∧ x.2.1 < (x.2.2.length : Int) then
      laws_markTxnS_vd_j5000007 ((IntKind.wrap .i64 (x.1 + (1 : Int))), x.2.1, (x.2.2.set x.2.1.toNat ((x.2.2.getD x.2.1.toNat (Ty.zero tTxn)).1, ((IntKind.wrap .i64 (x.1 + (1 : Int))), (x.2.2.getD x.2.1.toNat (Ty.zero tTxn)).2.2)))) (fun z4 =>
        k (z4.1, z4.2.1, z4.2.2))
    else none

theorem laws_markTxnS_vd_jp5000005 (x : (Int × Int × (List dTxn))) : Par (laws_markTxnS_vd_j5000005 x) := by
  unfold laws_markTxnS_vd_j5000005
  exact (par_ite (c := 0 ≤ x.2.1 ∧ x.2.1 < (x.2.2.length : Int)) ((laws_markTxnS_vd_jp5000007 ((IntKind.wrap .i64 (x.1 + (1 : Int))), x.2.1, (x.2.2.set x.2.1.toNat ((x.2.2.getD x.2.1.toNat (Ty.zero tTxn)).1, ((IntKind.wrap .i64 (x.1 + (1 : Int))), (x.2.2.getD x.2.1.toNat (Ty.zero tTxn)).2.2))))).bind fun z4 => (par_ret _)) par_none)

def laws_markTxnS_vd_b0 (x : (Int × Int × (List dTxn))) (k : (Int × Int × (List dTxn)) ⊕ (Int × Int × (List dTxn)) → Option Res) : Option Res :=
    bif (decide (x.2.1 < (x.2.2.length : Int))) then
      if 0 ≤ x.2.1 ∧ x.2.1 < (x.2.2.length : Int) then
        laws_markTxnS_vd_j5000005 (x.1, x.2.1, (x.2.2.set x.2.1.toNat (x.1, (x.2.2.getD x.2.1.toNat (Ty.zero tTxn)).2))) (fun z2 =>
          laws_markTxnS_vd_j5000003 (z2.1, z2.2.1, z2.2.2) (fun z3 =>
            k (.inl (z3.1, z3.2.1, z3.2.2))))
      else none
    else
      k (.inr (x.1, x.2.1, x.2.2))

theorem laws_markTxnS_vd_bp0 (x : (Int × Int × (List dTxn))) : Par (laws_markTxnS_vd_b0 x) := by
  unfold laws_markTxnS_vd_b0
  exact (par_bif (par_ite (c := 0 ≤ x.2.1 ∧ x.2.1 < (x.2.2.length : Int)) ((laws_markTxnS_vd_jp5000005 (x.1, x.2.1, (x.2.2.set x.2.1.toNat (x.1, (x.2.2.getD x.2.1.toNat (Ty.zero tTxn)).2)))).bind fun z2 => ((laws_markTxnS_vd_jp5000003 (z2.1, z2.2.1, z2.2.2)).bind fun z3 => (par_ret _))) par_none) (par_ret _))

def laws_markTxnS_vd_d (a0 : Int) (a1 : (List dTxn)) (k : (Int × (List dTxn)) → Option Res) : Option Res :=
  loopK laws_markTxnS_vd_b0 Fuel (a0, (0 : Int), a1) (fun z1 =>
    k (z1.1, z1.2.2))

theorem laws_markTxnS_vd_h : ∃ g : Int → (List dTxn) → ((Int × (List dTxn)) → Option Res) → Option Res, g = laws_markTxnS_vd_d := ⟨_, rfl⟩
def laws_markTxnS_vd_k : Int → (List dTxn) → ((Int × (List dTxn)) → Option Res) → Option Res := Classical.choose laws_markTxnS_vd_h
theorem laws_markTxnS_vd_e : laws_markTxnS_vd_k = laws_markTxnS_vd_d := Classical.choose_spec laws_markTxnS_vd_h

theorem laws_markTxnS_vd_p (a0 : Int) (a1 : (List dTxn)) : Par (laws_markTxnS_vd_k a0 a1) := by
  rw [laws_markTxnS_vd_e]
  unfold laws_markTxnS_vd_d
  exact ((par_loop laws_markTxnS_vd_bp0 Fuel (a0, (0 : Int), a1)).bind fun z1 => (par_ret _))

def laws_markBase_vAodd_d (a0 : Int) (a1 : Int) (a2 : Int) (a3 : (List dVersion)) (a4 : (List dTxn)) (a5 : (List dTxn)) (k : (Int × (List dVersion) × (List dTxn) × (List dTxn)) → Option Res) : Option Res :=
  laws_markVersionS_vo_k a2 a3 (fun y1 =>
    laws_markTxnS_vd_k y1.1 a4 (fun y2 =>
      laws_markTxnS_vd_k y2.1 a5 (fun y3 =>
        k (y3.1, y1.2, y2.2, y3.2))))

theorem laws_markBase_vAodd_h : ∃ g : Int → Int → Int → (List dVersion) → (List dTxn) → (List dTxn) → ((Int × (List dVersion) × (List dTxn) × (List dTxn)) → Option Res) → Option Res, g = laws_markBase_vAodd_d := ⟨_, rfl⟩
def laws_markBase_vAodd_k : Int → Int → Int → (List dVersion) → (List dTxn) → (List dTxn) → ((Int × (List dVersion) × (List dTxn) × (List dTxn)) → Option Res) → Option Res := Classical.choose laws_markBase_vAodd_h
theorem laws_markBase_vAodd_e : laws_markBase_vAodd_k = laws_markBase_vAodd_d := Classical.choose_spec laws_markBase_vAodd_h

theorem laws_markBase_vAodd_p (a0 : Int) (a1 : Int) (a2 : Int) (a3 : (List dVersion)) (a4 : (List dTxn)) (a5 : (List dTxn)) : Par (laws_markBase_vAodd_k a0 a1 a2 a3 a4 a5) := by
  rw [laws_markBase_vAodd_e]
  unfold laws_markBase_vAodd_d
  exact ((laws_markVersionS_vo_p a2 a3).bind fun y1 => ((laws_markTxnS_vd_p y1.1 a4).bind fun y2 => ((laws_markTxnS_vd_p y2.1 a5).bind fun y3 => (par_ret _))))

def laws_markEngine_vAoddd_d (a0 : Int) (a1 : Int) (a2 : Int) (a3 : (List dVersion)) (a4 : (List dTxn)) (a5 : (List dTxn)) (a6 : (List dTxn)) (k : (Int × (List dVersion) × (List dTxn) × (List dTxn) × (List dTxn)) → Option Res) : Option Res :=
  laws_markBase_vAodd_k a0 a1 a2 a3 a4 a5 (fun y1 =>
    laws_markTxnS_vd_k y1.1 a6 (fun y2 =>
      k (y2.1, y1.2.1, y1.2.2.1, y1.2.2.2, y2.2)))

theorem laws_markEngine_vAoddd_h : ∃ g : Int → Int → Int → (List dVersion) → (List dTxn) → (List dTxn) → (List dTxn) → ((Int × (List dVersion) × (List dTxn) × (List dTxn) × (List dTxn)) → Option Res) → Option Res, g = laws_markEngine_vAoddd_d := ⟨_, rfl⟩
def laws_markEngine_vAoddd_k : Int → Int → Int → (List dVersion) → (List dTxn) → (List dTxn) → (List dTxn) → ((Int × (List dVersion) × (List dTxn) × (List dTxn) × (List dTxn)) → Option Res) → Option Res := Classical.choose laws_markEngine_vAoddd_h
theorem laws_markEngine_vAoddd_e : laws_markEngine_vAoddd_k = laws_markEngine_vAoddd_d := Classical.choose_spec laws_markEngine_vAoddd_h

theorem laws_markEngine_vAoddd_p (a0 : Int) (a1 : Int) (a2 : Int) (a3 : (List dVersion)) (a4 : (List dTxn)) (a5 : (List dTxn)) (a6 : (List dTxn)) : Par (laws_markEngine_vAoddd_k a0 a1 a2 a3 a4 a5 a6) := by
  rw [laws_markEngine_vAoddd_e]
  unfold laws_markEngine_vAoddd_d
  exact ((laws_markBase_vAodd_p a0 a1 a2 a3 a4 a5).bind fun y1 => ((laws_markTxnS_vd_p y1.1 a6).bind fun y2 => (par_ret _)))

def laws_markStringS_vo_b0 (x : (Int × Int × (List ByteArray))) (k : (Int × Int × (List ByteArray)) ⊕ (Int × Int × (List ByteArray)) → Option Res) : Option Res :=
    bif (decide (x.2.1 < (x.2.2.length : Int))) then
      laws_markText_k x.1 (fun y2 =>
        if 0 ≤ x.2.1 ∧ x.2.1 < (x.2.2.length : Int) then
          k (.inl ((IntKind.wrap .i64 (x.1 + (1 : Int))), (IntKind.wrap .i64 (x.2.1 + (1 : Int))), (x.2.2.set x.2.1.toNat y2)))
        else none)
    else
      k (.inr (x.1, x.2.1, x.2.2))

theorem laws_markStringS_vo_bp0 (x : (Int × Int × (List ByteArray))) : Par (laws_markStringS_vo_b0 x) := by
  unfold laws_markStringS_vo_b0
  exact (par_bif ((laws_markText_p x.1).bind fun y2 => (par_ite (c := 0 ≤ x.2.1 ∧ x.2.1 < (x.2.2.length : Int)) (par_ret _) par_none)) (par_ret _))

def laws_markStringS_vo_d (a0 : Int) (a1 : (List ByteArray)) (k : (Int × (List ByteArray)) → Option Res) : Option Res :=
  loopK laws_markStringS_vo_b0 Fuel (a0, (0 : Int), a1) (fun z1 =>
    k (z1.1, z1.2.2))

theorem laws_markStringS_vo_h : ∃ g : Int → (List ByteArray) → ((Int × (List ByteArray)) → Option Res) → Option Res, g = laws_markStringS_vo_d := ⟨_, rfl⟩
def laws_markStringS_vo_k : Int → (List ByteArray) → ((Int × (List ByteArray)) → Option Res) → Option Res := Classical.choose laws_markStringS_vo_h
theorem laws_markStringS_vo_e : laws_markStringS_vo_k = laws_markStringS_vo_d := Classical.choose_spec laws_markStringS_vo_h

theorem laws_markStringS_vo_p (a0 : Int) (a1 : (List ByteArray)) : Par (laws_markStringS_vo_k a0 a1) := by
  rw [laws_markStringS_vo_e]
  unfold laws_markStringS_vo_d
  exact ((par_loop laws_markStringS_vo_bp0 Fuel (a0, (0 : Int), a1)).bind fun z1 => (par_ret _))

def laws_markPutS_vo_b0 (x : (Int × Int × (List dPut))) (k : (Int × Int × (List dPut)) ⊕ (Int × Int × (List dPut)) → Option Res) : Option Res :=
    bif (decide (x.2.1 < (x.2.2.length : Int))) then
      if 0 ≤ x.2.1 ∧ x.2.1 < (x.2.2.length : Int) then
        laws_markText_k (IntKind.wrap .i64 (x.1 + (1 : Int))) (fun y2 =>
          if 0 ≤ x.2.1 ∧ x.2.1 < ((x.2.2.set x.2.1.toNat (x.1, (x.2.2.getD x.2.1.toNat (Ty.zero tPut)).2)).length : Int) then
            k (.inl ((IntKind.wrap .i64 ((IntKind.wrap .i64 (x.1 + (1 : Int))) + (1 : Int))), (IntKind.wrap .i64 (x.2.1 + (1 : Int))), ((x.2.2.set x.2.1.toNat (x.1, (x.2.2.getD x.2.1.toNat (Ty.zero tPut)).2)).set x.2.1.toNat (((x.2.2.set x.2.1.toNat (x.1, (x.2.2.getD x.2.1.toNat (Ty.zero tPut)).2)).getD x.2.1.toNat (Ty.zero tPut)).1, y2))))
          else none)
      else none
    else
      k (.inr (x.1, x.2.1, x.2.2))

theorem laws_markPutS_vo_bp0 (x : (Int × Int × (List dPut))) : Par (laws_markPutS_vo_b0 x) := by
  unfold laws_markPutS_vo_b0
  exact (par_bif (par_ite (c := 0 ≤ x.2.1 ∧ x.2.1 < (x.2.2.length : Int)) ((laws_markText_p (IntKind.wrap .i64 (x.1 + (1 : Int)))).bind fun y2 => (par_ite (c := 0 ≤ x.2.1 ∧ x.2.1 < ((x.2.2.set x.2.1.toNat (x.1, (x.2.2.getD x.2.1.toNat (Ty.zero tPut)).2)).length : Int)) (par_ret _) par_none)) par_none) (par_ret _))

def laws_markPutS_vo_d (a0 : Int) (a1 : (List dPut)) (k : (Int × (List dPut)) → Option Res) : Option Res :=
  loopK laws_markPutS_vo_b0 Fuel (a0, (0 : Int), a1) (fun z1 =>
    k (z1.1, z1.2.2))

theorem laws_markPutS_vo_h : ∃ g : Int → (List dPut) → ((Int × (List dPut)) → Option Res) → Option Res, g = laws_markPutS_vo_d := ⟨_, rfl⟩
def laws_markPutS_vo_k : Int → (List dPut) → ((Int × (List dPut)) → Option Res) → Option Res := Classical.choose laws_markPutS_vo_h
theorem laws_markPutS_vo_e : laws_markPutS_vo_k = laws_markPutS_vo_d := Classical.choose_spec laws_markPutS_vo_h

theorem laws_markPutS_vo_p (a0 : Int) (a1 : (List dPut)) : Par (laws_markPutS_vo_k a0 a1) := by
  rw [laws_markPutS_vo_e]
  unfold laws_markPutS_vo_d
  exact ((par_loop laws_markPutS_vo_bp0 Fuel (a0, (0 : Int), a1)).bind fun z1 => (par_ret _))

def laws_markDisk_va_d (a0 : Int) (a1 : (List ByteArray)) (a2 : (List dPut)) (k : (Int × (List ByteArray) × (List dPut)) → Option Res) : Option Res :=
  laws_markStringS_vo_k a0 a1 (fun y1 =>
    laws_markPutS_vo_k y1.1 a2 (fun y2 =>
      k (y2.1, y1.2, y2.2)))

theorem laws_markDisk_va_h : ∃ g : Int → (List ByteArray) → (List dPut) → ((Int × (List ByteArray) × (List dPut)) → Option Res) → Option Res, g = laws_markDisk_va_d := ⟨_, rfl⟩
def laws_markDisk_va_k : Int → (List ByteArray) → (List dPut) → ((Int × (List ByteArray) × (List dPut)) → Option Res) → Option Res := Classical.choose laws_markDisk_va_h
theorem laws_markDisk_va_e : laws_markDisk_va_k = laws_markDisk_va_d := Classical.choose_spec laws_markDisk_va_h

theorem laws_markDisk_va_p (a0 : Int) (a1 : (List ByteArray)) (a2 : (List dPut)) : Par (laws_markDisk_va_k a0 a1 a2) := by
  rw [laws_markDisk_va_e]
  unfold laws_markDisk_va_d
  exact ((laws_markStringS_vo_p a0 a1).bind fun y1 => ((laws_markPutS_vo_p y1.1 a2).bind fun y2 => (par_ret _)))

def laws_markStore_vAodddoo_d (a0 : Int) (a1 : Int) (a2 : Int) (a3 : (List dVersion)) (a4 : (List dTxn)) (a5 : (List dTxn)) (a6 : (List dTxn)) (a7 : (List ByteArray)) (a8 : (List dPut)) (k : (Int × (List dVersion) × (List dTxn) × (List dTxn) × (List dTxn) × (List ByteArray) × (List dPut)) → Option Res) : Option Res :=
  laws_markEngine_vAoddd_k a0 a1 a2 a3 a4 a5 a6 (fun y1 =>
    laws_markDisk_va_k y1.1 a7 a8 (fun y2 =>
      k (y2.1, y1.2.1, y1.2.2.1, y1.2.2.2.1, y1.2.2.2.2, y2.2.1, y2.2.2)))

theorem laws_markStore_vAodddoo_h : ∃ g : Int → Int → Int → (List dVersion) → (List dTxn) → (List dTxn) → (List dTxn) → (List ByteArray) → (List dPut) → ((Int × (List dVersion) × (List dTxn) × (List dTxn) × (List dTxn) × (List ByteArray) × (List dPut)) → Option Res) → Option Res, g = laws_markStore_vAodddoo_d := ⟨_, rfl⟩
def laws_markStore_vAodddoo_k : Int → Int → Int → (List dVersion) → (List dTxn) → (List dTxn) → (List dTxn) → (List ByteArray) → (List dPut) → ((Int × (List dVersion) × (List dTxn) × (List dTxn) × (List dTxn) × (List ByteArray) × (List dPut)) → Option Res) → Option Res := Classical.choose laws_markStore_vAodddoo_h
theorem laws_markStore_vAodddoo_e : laws_markStore_vAodddoo_k = laws_markStore_vAodddoo_d := Classical.choose_spec laws_markStore_vAodddoo_h

theorem laws_markStore_vAodddoo_p (a0 : Int) (a1 : Int) (a2 : Int) (a3 : (List dVersion)) (a4 : (List dTxn)) (a5 : (List dTxn)) (a6 : (List dTxn)) (a7 : (List ByteArray)) (a8 : (List dPut)) : Par (laws_markStore_vAodddoo_k a0 a1 a2 a3 a4 a5 a6 a7 a8) := by
  rw [laws_markStore_vAodddoo_e]
  unfold laws_markStore_vAodddoo_d
  exact ((laws_markEngine_vAoddd_p a0 a1 a2 a3 a4 a5 a6).bind fun y1 => ((laws_markDisk_va_p y1.1 a7 a8).bind fun y2 => (par_ret _)))

def laws_heldStringS_b0 (x : ((List ByteArray) × Int × Int × Int)) (k : ((List ByteArray) × Int × Int × Int) ⊕ (((List ByteArray) × Int × Int × Int) ⊕ ((List ByteArray) × Int × Int × Int)) → Option Res) : Option Res :=
    bif (decide (x.2.2.2 < (x.1.length : Int))) then
      if 0 ≤ x.2.2.2 ∧ x.2.2.2 < (x.1.length : Int) then
        laws_markText_k x.2.1 (fun y3 =>
          bif (!(strEq (rd (Ty.zero .str) x.1 x.2.2.2) y3)) then
            k (.inr (.inl (x.1, x.2.1, (-1 : Int), x.2.2.2)))
          else
            k (.inl (x.1, (IntKind.wrap .i64 (x.2.1 + (1 : Int))), x.2.2.1, (IntKind.wrap .i64 (x.2.2.2 + (1 : Int))))))
      else none
    else
      k (.inr (.inr (x.1, x.2.1, x.2.2.1, x.2.2.2)))

theorem laws_heldStringS_bp0 (x : ((List ByteArray) × Int × Int × Int)) : Par (laws_heldStringS_b0 x) := by
  unfold laws_heldStringS_b0
  exact (par_bif (par_ite (c := 0 ≤ x.2.2.2 ∧ x.2.2.2 < (x.1.length : Int)) ((laws_markText_p x.2.1).bind fun y3 => (par_bif (par_ret _) (par_ret _))) par_none) (par_ret _))

def laws_heldStringS_d (a0 : (List ByteArray)) (a1 : Int) (k : Int → Option Res) : Option Res :=
  loopK laws_heldStringS_b0 Fuel (a0, a1, (0 : Int), (0 : Int)) (Sum.elim (fun z1 =>
    k z1.2.2.1) (fun z2 =>
    k z2.2.1))

theorem laws_heldStringS_h : ∃ g : (List ByteArray) → Int → (Int → Option Res) → Option Res, g = laws_heldStringS_d := ⟨_, rfl⟩
def laws_heldStringS_k : (List ByteArray) → Int → (Int → Option Res) → Option Res := Classical.choose laws_heldStringS_h
theorem laws_heldStringS_e : laws_heldStringS_k = laws_heldStringS_d := Classical.choose_spec laws_heldStringS_h

theorem laws_heldStringS_p (a0 : (List ByteArray)) (a1 : Int) : Par (laws_heldStringS_k a0 a1) := by
  rw [laws_heldStringS_e]
  unfold laws_heldStringS_d
  exact ((par_loop laws_heldStringS_bp0 Fuel (a0, a1, (0 : Int), (0 : Int))).bind2 (fun z1 => (par_ret _)) (fun z2 => (par_ret _)))

def laws_FnExactInDoubt_j5000016 (x : (Bool × (List dVersion) × (List dTxn) × (List dTxn) × Int × Int × (List dTxn) × (List ByteArray) × (List dPut) × (List ByteArray) × (List ByteArray))) (k : (Bool × (List dVersion) × (List dTxn) × (List dTxn) × Int × Int × (List dTxn) × (List ByteArray) × (List dPut) × (List ByteArray) × (List ByteArray)) → Option Res) : Option Res :=
    laws_markStringS_vo_k (1 : Int) x.2.2.2.2.2.2.2.2.2.2 (fun y12 =>
      laws_heldStringS_k y12.2 (1 : Int) (fun y13 =>
        bif (decide (y13 < (0 : Int))) then
          k (false, x.2.1, x.2.2.1, x.2.2.2.1, x.2.2.2.2.1, x.2.2.2.2.2.1, x.2.2.2.2.2.2.1, x.2.2.2.2.2.2.2.1, x.2.2.2.2.2.2.2.2.1, x.2.2.2.2.2.2.2.2.2.1, y12.2)
        else
          bif (y13 != y12.1) then
            k (false, x.2.1, x.2.2.1, x.2.2.2.1, x.2.2.2.2.1, x.2.2.2.2.2.1, x.2.2.2.2.2.2.1, x.2.2.2.2.2.2.2.1, x.2.2.2.2.2.2.2.2.1, x.2.2.2.2.2.2.2.2.2.1, y12.2)
          else
            laws_toStore_k (((x.2.1, (x.2.2.1, (x.2.2.2.1, (x.2.2.2.2.1, x.2.2.2.2.2.1)))), x.2.2.2.2.2.2.1), (x.2.2.2.2.2.2.2.1, x.2.2.2.2.2.2.2.2.1)) (fun y14 =>
              impl_InDoubt_k (((y14.2.2.1, (y14.2.2.2.1, (y14.2.2.2.2.1, (y14.1, y14.2.1)))), y14.2.2.2.2.2.1), y14.2.2.2.2.2.2) (fun y15 =>
                laws_eqStringS_k y15 x.2.2.2.2.2.2.2.2.2.1 (fun y16 =>
                  bif (!y16) then
                    k (false, x.2.1, x.2.2.1, x.2.2.2.1, x.2.2.2.2.1, x.2.2.2.2.2.1, x.2.2.2.2.2.2.1, x.2.2.2.2.2.2.2.1, x.2.2.2.2.2.2.2.2.1, x.2.2.2.2.2.2.2.2.2.1, y12.2)
                  else
                    laws_heldStringS_k y12.2 (1 : Int) (fun y17 =>
                      bif (decide (y17 < (0 : Int))) then
                        k (false, x.2.1, x.2.2.1, x.2.2.2.1, x.2.2.2.2.1, x.2.2.2.2.2.1, x.2.2.2.2.2.2.1, x.2.2.2.2.2.2.2.1, x.2.2.2.2.2.2.2.2.1, x.2.2.2.2.2.2.2.2.2.1, y12.2)
                      else
                        bif (y17 != y12.1) then
                          k (false, x.2.1, x.2.2.1, x.2.2.2.1, x.2.2.2.2.1, x.2.2.2.2.2.1, x.2.2.2.2.2.2.1, x.2.2.2.2.2.2.2.1, x.2.2.2.2.2.2.2.2.1, x.2.2.2.2.2.2.2.2.2.1, y12.2)
                        else
                          k (true, x.2.1, x.2.2.1, x.2.2.2.1, x.2.2.2.2.1, x.2.2.2.2.2.1, x.2.2.2.2.2.2.1, x.2.2.2.2.2.2.2.1, x.2.2.2.2.2.2.2.2.1, x.2.2.2.2.2.2.2.2.2.1, y12.2)))))))

theorem laws_FnExactInDoubt_jp5000016 (x : (Bool × (List dVersion) × (List dTxn) × (List dTxn) × Int × Int × (List dTxn) × (List ByteArray) × (List dPut) × (List ByteArray) × (List ByteArray))) : Par (laws_FnExactInDoubt_j5000016 x) := by
  unfold laws_FnExactInDoubt_j5000016
  exact ((laws_markStringS_vo_p (1 : Int) x.2.2.2.2.2.2.2.2.2.2).bind fun y12 => ((laws_heldStringS_p y12.2 (1 : Int)).bind fun y13 => (par_bif (par_ret _) (par_bif (par_ret _) ((laws_toStore_p (((x.2.1, (x.2.2.1, (x.2.2.2.1, (x.2.2.2.2.1, x.2.2.2.2.2.1)))), x.2.2.2.2.2.2.1), (x.2.2.2.2.2.2.2.1, x.2.2.2.2.2.2.2.2.1))).bind fun y14 => ((impl_InDoubt_p (((y14.2.2.1, (y14.2.2.2.1, (y14.2.2.2.2.1, (y14.1, y14.2.1)))), y14.2.2.2.2.2.1), y14.2.2.2.2.2.2)).bind fun y15 => ((laws_eqStringS_p y15 x.2.2.2.2.2.2.2.2.2.1).bind fun y16 => (par_bif (par_ret _) ((laws_heldStringS_p y12.2 (1 : Int)).bind fun y17 => (par_bif (par_ret _) (par_bif (par_ret _) (par_ret _))))))))))))

def laws_FnExactInDoubt_d (a0 : dStore) (k : Bool → Option Res) : Option Res :=
  laws_szStore_k a0 (1048576 : Int) (fun y1 =>
    bif (decide (y1 < (0 : Int))) then
      k true
    else
      laws_toStore_k a0 (fun y2 =>
        spec_InDoubt_k (((y2.2.2.1, (y2.2.2.2.1, (y2.2.2.2.2.1, (y2.1, y2.2.1)))), y2.2.2.2.2.2.1), y2.2.2.2.2.2.2) (fun y3 =>
          laws_toStore_k a0 (fun y4 =>
            impl_InDoubt_k (((y4.2.2.1, (y4.2.2.2.1, (y4.2.2.2.2.1, (y4.1, y4.2.1)))), y4.2.2.2.2.2.1), y4.2.2.2.2.2.2) (fun y5 =>
              laws_eqStringS_k y5 y3 (fun y6 =>
                bif (!y6) then
                  k false
                else
                  laws_toStore_k a0 (fun y7 =>
                    laws_eqStore_k (((y4.2.2.1, (y4.2.2.2.1, (y4.2.2.2.2.1, (y4.1, y4.2.1)))), y4.2.2.2.2.2.1), y4.2.2.2.2.2.2) (((y7.2.2.1, (y7.2.2.2.1, (y7.2.2.2.2.1, (y7.1, y7.2.1)))), y7.2.2.2.2.2.1), y7.2.2.2.2.2.2) (fun y8 =>
                      bif (!y8) then
                        k false
                      else
                        laws_markStore_vAodddoo_k y4.1 y4.2.1 (1 : Int) y4.2.2.1 y4.2.2.2.1 y4.2.2.2.2.1 y4.2.2.2.2.2.1 y4.2.2.2.2.2.2.1 y4.2.2.2.2.2.2.2 (fun y9 =>
                          bif (decide (y9.1 < (0 : Int))) then
                            k false
                          else
                            laws_eqStringS_k y5 y3 (fun y10 =>
                              bif (!y10) then
                                k false
                              else
                                laws_FnExactInDoubt_j5000016 (false, a0.1.1.1, a0.1.1.2.1, a0.1.1.2.2.1, a0.1.1.2.2.2.1, a0.1.1.2.2.2.2, a0.1.2, a0.2.1, a0.2.2, y3, y5) (fun z11 =>
                                  k z11.1)))))))))))

theorem laws_FnExactInDoubt_h : ∃ g : dStore → (Bool → Option Res) → Option Res, g = laws_FnExactInDoubt_d := ⟨_, rfl⟩
def laws_FnExactInDoubt_k : dStore → (Bool → Option Res) → Option Res := Classical.choose laws_FnExactInDoubt_h
theorem laws_FnExactInDoubt_e : laws_FnExactInDoubt_k = laws_FnExactInDoubt_d := Classical.choose_spec laws_FnExactInDoubt_h

theorem laws_FnExactInDoubt_p (a0 : dStore) : Par (laws_FnExactInDoubt_k a0) := by
  rw [laws_FnExactInDoubt_e]
  unfold laws_FnExactInDoubt_d
  exact ((laws_szStore_p a0 (1048576 : Int)).bind fun y1 => (par_bif (par_ret _) ((laws_toStore_p a0).bind fun y2 => ((spec_InDoubt_p (((y2.2.2.1, (y2.2.2.2.1, (y2.2.2.2.2.1, (y2.1, y2.2.1)))), y2.2.2.2.2.2.1), y2.2.2.2.2.2.2)).bind fun y3 => ((laws_toStore_p a0).bind fun y4 => ((impl_InDoubt_p (((y4.2.2.1, (y4.2.2.2.1, (y4.2.2.2.2.1, (y4.1, y4.2.1)))), y4.2.2.2.2.2.1), y4.2.2.2.2.2.2)).bind fun y5 => ((laws_eqStringS_p y5 y3).bind fun y6 => (par_bif (par_ret _) ((laws_toStore_p a0).bind fun y7 => ((laws_eqStore_p (((y4.2.2.1, (y4.2.2.2.1, (y4.2.2.2.2.1, (y4.1, y4.2.1)))), y4.2.2.2.2.2.1), y4.2.2.2.2.2.2) (((y7.2.2.1, (y7.2.2.2.1, (y7.2.2.2.2.1, (y7.1, y7.2.1)))), y7.2.2.2.2.2.1), y7.2.2.2.2.2.2)).bind fun y8 => (par_bif (par_ret _) ((laws_markStore_vAodddoo_p y4.1 y4.2.1 (1 : Int) y4.2.2.1 y4.2.2.2.1 y4.2.2.2.2.1 y4.2.2.2.2.2.1 y4.2.2.2.2.2.2.1 y4.2.2.2.2.2.2.2).bind fun y9 => (par_bif (par_ret _) ((laws_eqStringS_p y5 y3).bind fun y10 => (par_bif (par_ret _) ((laws_FnExactInDoubt_jp5000016 (false, a0.1.1.1, a0.1.1.2.1, a0.1.1.2.2.1, a0.1.1.2.2.2.1, a0.1.1.2.2.2.2, a0.1.2, a0.2.1, a0.2.2, y3, y5)).bind fun z11 => (par_ret _)))))))))))))))))

def laws_szVersion_g (args : List AV) (st : St) (k : K1) : Option Res :=
  onPats [.agg [.str, .str, .bool, .int .i64], .int .i64] [] args st (fun p q => laws_szVersion_k (p.1.1, (p.1.2.1, (p.1.2.2.1, p.1.2.2.2.1))) p.2.1 (fun (y : Int) => k (.int .i64 y) []))
    (none)

theorem laws_szVersion_q (a0 : ByteArray) (a1 : ByteArray) (a2 : Bool) (a3 : Int) (a4 : Int) : Par (fun k : AV × St → Option Res => laws_szVersion_g [.agg [.str a0, .str a1, .bool a2, .int .i64 a3], .int .i64 a4] [] (fun v s => k (v, s))) :=
  (laws_szVersion_p (a0, (a1, (a2, a3))) a4).bind (H := fun (y : Int) (k : AV × St → Option Res) => (fun (y : Int) => k ((.int .i64 y : AV), ([] : St))) y) (fun y => par_ret _)

def laws_szVersionS_g (args : List AV) (st : St) (k : K1) : Option Res :=
  onPats [.lst tVersion, .int .i64] [] args st (fun p q => laws_szVersionS_k p.1 p.2.1 (fun (y : Int) => k (.int .i64 y) []))
    (none)

theorem laws_szVersionS_q (a0 : (List dVersion)) (a1 : Int) : Par (fun k : AV × St → Option Res => laws_szVersionS_g [.lst tVersion a0, .int .i64 a1] [] (fun v s => k (v, s))) :=
  (laws_szVersionS_p a0 a1).bind (H := fun (y : Int) (k : AV × St → Option Res) => (fun (y : Int) => k ((.int .i64 y : AV), ([] : St))) y) (fun y => par_ret _)

def laws_szRange_g (args : List AV) (st : St) (k : K1) : Option Res :=
  onPats [.agg [.str, .str], .int .i64] [] args st (fun p q => laws_szRange_k (p.1.1, p.1.2.1) p.2.1 (fun (y : Int) => k (.int .i64 y) []))
    (none)

theorem laws_szRange_q (a0 : ByteArray) (a1 : ByteArray) (a2 : Int) : Par (fun k : AV × St → Option Res => laws_szRange_g [.agg [.str a0, .str a1], .int .i64 a2] [] (fun v s => k (v, s))) :=
  (laws_szRange_p (a0, a1) a2).bind (H := fun (y : Int) (k : AV × St → Option Res) => (fun (y : Int) => k ((.int .i64 y : AV), ([] : St))) y) (fun y => par_ret _)

def laws_szRangeS_g (args : List AV) (st : St) (k : K1) : Option Res :=
  onPats [.lst tRange, .int .i64] [] args st (fun p q => laws_szRangeS_k p.1 p.2.1 (fun (y : Int) => k (.int .i64 y) []))
    (none)

theorem laws_szRangeS_q (a0 : (List dRange)) (a1 : Int) : Par (fun k : AV × St → Option Res => laws_szRangeS_g [.lst tRange a0, .int .i64 a1] [] (fun v s => k (v, s))) :=
  (laws_szRangeS_p a0 a1).bind (H := fun (y : Int) (k : AV × St → Option Res) => (fun (y : Int) => k ((.int .i64 y : AV), ([] : St))) y) (fun y => par_ret _)

def laws_szWrite_g (args : List AV) (st : St) (k : K1) : Option Res :=
  onPats [.agg [.str, .str, .bool], .int .i64] [] args st (fun p q => laws_szWrite_k (p.1.1, (p.1.2.1, p.1.2.2.1)) p.2.1 (fun (y : Int) => k (.int .i64 y) []))
    (none)

theorem laws_szWrite_q (a0 : ByteArray) (a1 : ByteArray) (a2 : Bool) (a3 : Int) : Par (fun k : AV × St → Option Res => laws_szWrite_g [.agg [.str a0, .str a1, .bool a2], .int .i64 a3] [] (fun v s => k (v, s))) :=
  (laws_szWrite_p (a0, (a1, a2)) a3).bind (H := fun (y : Int) (k : AV × St → Option Res) => (fun (y : Int) => k ((.int .i64 y : AV), ([] : St))) y) (fun y => par_ret _)

def laws_szWriteS_g (args : List AV) (st : St) (k : K1) : Option Res :=
  onPats [.lst tWrite, .int .i64] [] args st (fun p q => laws_szWriteS_k p.1 p.2.1 (fun (y : Int) => k (.int .i64 y) []))
    (none)

theorem laws_szWriteS_q (a0 : (List dWrite)) (a1 : Int) : Par (fun k : AV × St → Option Res => laws_szWriteS_g [.lst tWrite a0, .int .i64 a1] [] (fun v s => k (v, s))) :=
  (laws_szWriteS_p a0 a1).bind (H := fun (y : Int) (k : AV × St → Option Res) => (fun (y : Int) => k ((.int .i64 y : AV), ([] : St))) y) (fun y => par_ret _)

def laws_szTxn_g (args : List AV) (st : St) (k : K1) : Option Res :=
  onPats [.agg [.int .i64, .int .i64, .int .i64, .int .i64, .lst tRange, .lst tWrite, .bool, .str], .int .i64] [] args st (fun p q => laws_szTxn_k (p.1.1, (p.1.2.1, (p.1.2.2.1, (p.1.2.2.2.1, (p.1.2.2.2.2.1, (p.1.2.2.2.2.2.1, (p.1.2.2.2.2.2.2.1, p.1.2.2.2.2.2.2.2.1))))))) p.2.1 (fun (y : Int) => k (.int .i64 y) []))
    (none)

theorem laws_szTxn_q (a0 : Int) (a1 : Int) (a2 : Int) (a3 : Int) (a4 : (List dRange)) (a5 : (List dWrite)) (a6 : Bool) (a7 : ByteArray) (a8 : Int) : Par (fun k : AV × St → Option Res => laws_szTxn_g [.agg [.int .i64 a0, .int .i64 a1, .int .i64 a2, .int .i64 a3, .lst tRange a4, .lst tWrite a5, .bool a6, .str a7], .int .i64 a8] [] (fun v s => k (v, s))) :=
  (laws_szTxn_p (a0, (a1, (a2, (a3, (a4, (a5, (a6, a7))))))) a8).bind (H := fun (y : Int) (k : AV × St → Option Res) => (fun (y : Int) => k ((.int .i64 y : AV), ([] : St))) y) (fun y => par_ret _)

def laws_szTxnS_g (args : List AV) (st : St) (k : K1) : Option Res :=
  onPats [.lst tTxn, .int .i64] [] args st (fun p q => laws_szTxnS_k p.1 p.2.1 (fun (y : Int) => k (.int .i64 y) []))
    (none)

theorem laws_szTxnS_q (a0 : (List dTxn)) (a1 : Int) : Par (fun k : AV × St → Option Res => laws_szTxnS_g [.lst tTxn a0, .int .i64 a1] [] (fun v s => k (v, s))) :=
  (laws_szTxnS_p a0 a1).bind (H := fun (y : Int) (k : AV × St → Option Res) => (fun (y : Int) => k ((.int .i64 y : AV), ([] : St))) y) (fun y => par_ret _)

def laws_szBase_g (args : List AV) (st : St) (k : K1) : Option Res :=
  onPats [.agg [.lst tVersion, .lst tTxn, .lst tTxn, .int .i64, .int .i64], .int .i64] [] args st (fun p q => laws_szBase_k (p.1.1, (p.1.2.1, (p.1.2.2.1, (p.1.2.2.2.1, p.1.2.2.2.2.1)))) p.2.1 (fun (y : Int) => k (.int .i64 y) []))
    (none)

theorem laws_szBase_q (a0 : (List dVersion)) (a1 : (List dTxn)) (a2 : (List dTxn)) (a3 : Int) (a4 : Int) (a5 : Int) : Par (fun k : AV × St → Option Res => laws_szBase_g [.agg [.lst tVersion a0, .lst tTxn a1, .lst tTxn a2, .int .i64 a3, .int .i64 a4], .int .i64 a5] [] (fun v s => k (v, s))) :=
  (laws_szBase_p (a0, (a1, (a2, (a3, a4)))) a5).bind (H := fun (y : Int) (k : AV × St → Option Res) => (fun (y : Int) => k ((.int .i64 y : AV), ([] : St))) y) (fun y => par_ret _)

def laws_szEngine_g (args : List AV) (st : St) (k : K1) : Option Res :=
  onPats [.agg [.lst tVersion, .lst tTxn, .lst tTxn, .int .i64, .int .i64, .lst tTxn], .int .i64] [] args st (fun p q => laws_szEngine_k ((p.1.1, (p.1.2.1, (p.1.2.2.1, (p.1.2.2.2.1, p.1.2.2.2.2.1)))), p.1.2.2.2.2.2.1) p.2.1 (fun (y : Int) => k (.int .i64 y) []))
    (none)

theorem laws_szEngine_q (a0 : (List dVersion)) (a1 : (List dTxn)) (a2 : (List dTxn)) (a3 : Int) (a4 : Int) (a5 : (List dTxn)) (a6 : Int) : Par (fun k : AV × St → Option Res => laws_szEngine_g [.agg [.lst tVersion a0, .lst tTxn a1, .lst tTxn a2, .int .i64 a3, .int .i64 a4, .lst tTxn a5], .int .i64 a6] [] (fun v s => k (v, s))) :=
  (laws_szEngine_p ((a0, (a1, (a2, (a3, a4)))), a5) a6).bind (H := fun (y : Int) (k : AV × St → Option Res) => (fun (y : Int) => k ((.int .i64 y : AV), ([] : St))) y) (fun y => par_ret _)

def laws_szStringS_g (args : List AV) (st : St) (k : K1) : Option Res :=
  onPats [.lst .str, .int .i64] [] args st (fun p q => laws_szStringS_k p.1 p.2.1 (fun (y : Int) => k (.int .i64 y) []))
    (none)

theorem laws_szStringS_q (a0 : (List ByteArray)) (a1 : Int) : Par (fun k : AV × St → Option Res => laws_szStringS_g [.lst .str a0, .int .i64 a1] [] (fun v s => k (v, s))) :=
  (laws_szStringS_p a0 a1).bind (H := fun (y : Int) (k : AV × St → Option Res) => (fun (y : Int) => k ((.int .i64 y : AV), ([] : St))) y) (fun y => par_ret _)

def laws_szPut_g (args : List AV) (st : St) (k : K1) : Option Res :=
  onPats [.agg [.int .i64, .str], .int .i64] [] args st (fun p q => laws_szPut_k (p.1.1, p.1.2.1) p.2.1 (fun (y : Int) => k (.int .i64 y) []))
    (none)

theorem laws_szPut_q (a0 : Int) (a1 : ByteArray) (a2 : Int) : Par (fun k : AV × St → Option Res => laws_szPut_g [.agg [.int .i64 a0, .str a1], .int .i64 a2] [] (fun v s => k (v, s))) :=
  (laws_szPut_p (a0, a1) a2).bind (H := fun (y : Int) (k : AV × St → Option Res) => (fun (y : Int) => k ((.int .i64 y : AV), ([] : St))) y) (fun y => par_ret _)

def laws_szPutS_g (args : List AV) (st : St) (k : K1) : Option Res :=
  onPats [.lst tPut, .int .i64] [] args st (fun p q => laws_szPutS_k p.1 p.2.1 (fun (y : Int) => k (.int .i64 y) []))
    (none)

theorem laws_szPutS_q (a0 : (List dPut)) (a1 : Int) : Par (fun k : AV × St → Option Res => laws_szPutS_g [.lst tPut a0, .int .i64 a1] [] (fun v s => k (v, s))) :=
  (laws_szPutS_p a0 a1).bind (H := fun (y : Int) (k : AV × St → Option Res) => (fun (y : Int) => k ((.int .i64 y : AV), ([] : St))) y) (fun y => par_ret _)

def laws_szDisk_g (args : List AV) (st : St) (k : K1) : Option Res :=
  onPats [.agg [.lst .str, .lst tPut], .int .i64] [] args st (fun p q => laws_szDisk_k (p.1.1, p.1.2.1) p.2.1 (fun (y : Int) => k (.int .i64 y) []))
    (none)

theorem laws_szDisk_q (a0 : (List ByteArray)) (a1 : (List dPut)) (a2 : Int) : Par (fun k : AV × St → Option Res => laws_szDisk_g [.agg [.lst .str a0, .lst tPut a1], .int .i64 a2] [] (fun v s => k (v, s))) :=
  (laws_szDisk_p (a0, a1) a2).bind (H := fun (y : Int) (k : AV × St → Option Res) => (fun (y : Int) => k ((.int .i64 y : AV), ([] : St))) y) (fun y => par_ret _)

def laws_szStore_g (args : List AV) (st : St) (k : K1) : Option Res :=
  onPats [.agg [.lst tVersion, .lst tTxn, .lst tTxn, .int .i64, .int .i64, .lst tTxn, .lst .str, .lst tPut], .int .i64] [] args st (fun p q => laws_szStore_k (((p.1.1, (p.1.2.1, (p.1.2.2.1, (p.1.2.2.2.1, p.1.2.2.2.2.1)))), p.1.2.2.2.2.2.1), (p.1.2.2.2.2.2.2.1, p.1.2.2.2.2.2.2.2.1)) p.2.1 (fun (y : Int) => k (.int .i64 y) []))
    (none)

theorem laws_szStore_q (a0 : (List dVersion)) (a1 : (List dTxn)) (a2 : (List dTxn)) (a3 : Int) (a4 : Int) (a5 : (List dTxn)) (a6 : (List ByteArray)) (a7 : (List dPut)) (a8 : Int) : Par (fun k : AV × St → Option Res => laws_szStore_g [.agg [.lst tVersion a0, .lst tTxn a1, .lst tTxn a2, .int .i64 a3, .int .i64 a4, .lst tTxn a5, .lst .str a6, .lst tPut a7], .int .i64 a8] [] (fun v s => k (v, s))) :=
  (laws_szStore_p (((a0, (a1, (a2, (a3, a4)))), a5), (a6, a7)) a8).bind (H := fun (y : Int) (k : AV × St → Option Res) => (fun (y : Int) => k ((.int .i64 y : AV), ([] : St))) y) (fun y => par_ret _)

def laws_toVersion_g (args : List AV) (st : St) (k : K1) : Option Res :=
  onPats [.agg [.str, .str, .bool, .int .i64]] [] args st (fun p q => laws_toVersion_k (p.1.1, (p.1.2.1, (p.1.2.2.1, p.1.2.2.2.1))) (fun (y : (ByteArray × ByteArray × Bool × Int)) => k (.agg [.str y.1, .str y.2.1, .bool y.2.2.1, .int .i64 y.2.2.2]) []))
    (none)

theorem laws_toVersion_q (a0 : ByteArray) (a1 : ByteArray) (a2 : Bool) (a3 : Int) : Par (fun k : AV × St → Option Res => laws_toVersion_g [.agg [.str a0, .str a1, .bool a2, .int .i64 a3]] [] (fun v s => k (v, s))) :=
  (laws_toVersion_p (a0, (a1, (a2, a3)))).bind (H := fun (y : (ByteArray × ByteArray × Bool × Int)) (k : AV × St → Option Res) => (fun (y : (ByteArray × ByteArray × Bool × Int)) => k ((.agg [.str y.1, .str y.2.1, .bool y.2.2.1, .int .i64 y.2.2.2] : AV), ([] : St))) y) (fun y => par_ret _)

def laws_toVersionS_g (args : List AV) (st : St) (k : K1) : Option Res :=
  onPats [.lst tVersion] [] args st (fun p q => laws_toVersionS_k p.1 (fun (y : (List dVersion)) => k (.own 0) [.arr tVersion y]))
    (none)

theorem laws_toVersionS_q (a0 : (List dVersion)) : Par (fun k : AV × St → Option Res => laws_toVersionS_g [.lst tVersion a0] [] (fun v s => k (v, s))) :=
  (laws_toVersionS_p a0).bind (H := fun (y : (List dVersion)) (k : AV × St → Option Res) => (fun (y : (List dVersion)) => k ((.own 0 : AV), ([.arr tVersion y] : St))) y) (fun y => par_ret _)

def laws_toRange_g (args : List AV) (st : St) (k : K1) : Option Res :=
  onPats [.agg [.str, .str]] [] args st (fun p q => laws_toRange_k (p.1.1, p.1.2.1) (fun (y : (ByteArray × ByteArray)) => k (.agg [.str y.1, .str y.2]) []))
    (none)

theorem laws_toRange_q (a0 : ByteArray) (a1 : ByteArray) : Par (fun k : AV × St → Option Res => laws_toRange_g [.agg [.str a0, .str a1]] [] (fun v s => k (v, s))) :=
  (laws_toRange_p (a0, a1)).bind (H := fun (y : (ByteArray × ByteArray)) (k : AV × St → Option Res) => (fun (y : (ByteArray × ByteArray)) => k ((.agg [.str y.1, .str y.2] : AV), ([] : St))) y) (fun y => par_ret _)

def laws_toRangeS_g (args : List AV) (st : St) (k : K1) : Option Res :=
  onPats [.lst tRange] [] args st (fun p q => laws_toRangeS_k p.1 (fun (y : (List dRange)) => k (.own 0) [.arr tRange y]))
    (none)

theorem laws_toRangeS_q (a0 : (List dRange)) : Par (fun k : AV × St → Option Res => laws_toRangeS_g [.lst tRange a0] [] (fun v s => k (v, s))) :=
  (laws_toRangeS_p a0).bind (H := fun (y : (List dRange)) (k : AV × St → Option Res) => (fun (y : (List dRange)) => k ((.own 0 : AV), ([.arr tRange y] : St))) y) (fun y => par_ret _)

def laws_toWrite_g (args : List AV) (st : St) (k : K1) : Option Res :=
  onPats [.agg [.str, .str, .bool]] [] args st (fun p q => laws_toWrite_k (p.1.1, (p.1.2.1, p.1.2.2.1)) (fun (y : (ByteArray × ByteArray × Bool)) => k (.agg [.str y.1, .str y.2.1, .bool y.2.2]) []))
    (none)

theorem laws_toWrite_q (a0 : ByteArray) (a1 : ByteArray) (a2 : Bool) : Par (fun k : AV × St → Option Res => laws_toWrite_g [.agg [.str a0, .str a1, .bool a2]] [] (fun v s => k (v, s))) :=
  (laws_toWrite_p (a0, (a1, a2))).bind (H := fun (y : (ByteArray × ByteArray × Bool)) (k : AV × St → Option Res) => (fun (y : (ByteArray × ByteArray × Bool)) => k ((.agg [.str y.1, .str y.2.1, .bool y.2.2] : AV), ([] : St))) y) (fun y => par_ret _)

def laws_toWriteS_g (args : List AV) (st : St) (k : K1) : Option Res :=
  onPats [.lst tWrite] [] args st (fun p q => laws_toWriteS_k p.1 (fun (y : (List dWrite)) => k (.own 0) [.arr tWrite y]))
    (none)

theorem laws_toWriteS_q (a0 : (List dWrite)) : Par (fun k : AV × St → Option Res => laws_toWriteS_g [.lst tWrite a0] [] (fun v s => k (v, s))) :=
  (laws_toWriteS_p a0).bind (H := fun (y : (List dWrite)) (k : AV × St → Option Res) => (fun (y : (List dWrite)) => k ((.own 0 : AV), ([.arr tWrite y] : St))) y) (fun y => par_ret _)

def laws_toTxn_g (args : List AV) (st : St) (k : K1) : Option Res :=
  onPats [.agg [.int .i64, .int .i64, .int .i64, .int .i64, .lst tRange, .lst tWrite, .bool, .str]] [] args st (fun p q => laws_toTxn_k (p.1.1, (p.1.2.1, (p.1.2.2.1, (p.1.2.2.2.1, (p.1.2.2.2.2.1, (p.1.2.2.2.2.2.1, (p.1.2.2.2.2.2.2.1, p.1.2.2.2.2.2.2.2.1))))))) (fun (y : (Int × Int × Int × Int × Bool × ByteArray × (List dRange) × (List dWrite))) => k (.agg [.int .i64 y.1, .int .i64 y.2.1, .int .i64 y.2.2.1, .int .i64 y.2.2.2.1, .own 0, .own 1, .bool y.2.2.2.2.1, .str y.2.2.2.2.2.1]) [.arr tRange y.2.2.2.2.2.2.1, .arr tWrite y.2.2.2.2.2.2.2]))
    (none)

theorem laws_toTxn_q (a0 : Int) (a1 : Int) (a2 : Int) (a3 : Int) (a4 : (List dRange)) (a5 : (List dWrite)) (a6 : Bool) (a7 : ByteArray) : Par (fun k : AV × St → Option Res => laws_toTxn_g [.agg [.int .i64 a0, .int .i64 a1, .int .i64 a2, .int .i64 a3, .lst tRange a4, .lst tWrite a5, .bool a6, .str a7]] [] (fun v s => k (v, s))) :=
  (laws_toTxn_p (a0, (a1, (a2, (a3, (a4, (a5, (a6, a7)))))))).bind (H := fun (y : (Int × Int × Int × Int × Bool × ByteArray × (List dRange) × (List dWrite))) (k : AV × St → Option Res) => (fun (y : (Int × Int × Int × Int × Bool × ByteArray × (List dRange) × (List dWrite))) => k ((.agg [.int .i64 y.1, .int .i64 y.2.1, .int .i64 y.2.2.1, .int .i64 y.2.2.2.1, .own 0, .own 1, .bool y.2.2.2.2.1, .str y.2.2.2.2.2.1] : AV), ([.arr tRange y.2.2.2.2.2.2.1, .arr tWrite y.2.2.2.2.2.2.2] : St))) y) (fun y => par_ret _)

def laws_toTxnS_g (args : List AV) (st : St) (k : K1) : Option Res :=
  onPats [.lst tTxn] [] args st (fun p q => laws_toTxnS_k p.1 (fun (y : (List dTxn)) => k (.own 0) [.dep tTxn y 0]))
    (none)

theorem laws_toTxnS_q (a0 : (List dTxn)) : Par (fun k : AV × St → Option Res => laws_toTxnS_g [.lst tTxn a0] [] (fun v s => k (v, s))) :=
  (laws_toTxnS_p a0).bind (H := fun (y : (List dTxn)) (k : AV × St → Option Res) => (fun (y : (List dTxn)) => k ((.own 0 : AV), ([.dep tTxn y 0] : St))) y) (fun y => par_ret _)

def laws_toBase_g (args : List AV) (st : St) (k : K1) : Option Res :=
  onPats [.agg [.lst tVersion, .lst tTxn, .lst tTxn, .int .i64, .int .i64]] [] args st (fun p q => laws_toBase_k (p.1.1, (p.1.2.1, (p.1.2.2.1, (p.1.2.2.2.1, p.1.2.2.2.2.1)))) (fun (y : (Int × Int × (List dVersion) × (List dTxn) × (List dTxn))) => k (.agg [.own 0, .own 1, .own 2, .int .i64 y.1, .int .i64 y.2.1]) [.arr tVersion y.2.2.1, .dep tTxn y.2.2.2.1 0, .dep tTxn y.2.2.2.2 0]))
    (none)

theorem laws_toBase_q (a0 : (List dVersion)) (a1 : (List dTxn)) (a2 : (List dTxn)) (a3 : Int) (a4 : Int) : Par (fun k : AV × St → Option Res => laws_toBase_g [.agg [.lst tVersion a0, .lst tTxn a1, .lst tTxn a2, .int .i64 a3, .int .i64 a4]] [] (fun v s => k (v, s))) :=
  (laws_toBase_p (a0, (a1, (a2, (a3, a4))))).bind (H := fun (y : (Int × Int × (List dVersion) × (List dTxn) × (List dTxn))) (k : AV × St → Option Res) => (fun (y : (Int × Int × (List dVersion) × (List dTxn) × (List dTxn))) => k ((.agg [.own 0, .own 1, .own 2, .int .i64 y.1, .int .i64 y.2.1] : AV), ([.arr tVersion y.2.2.1, .dep tTxn y.2.2.2.1 0, .dep tTxn y.2.2.2.2 0] : St))) y) (fun y => par_ret _)

def laws_toEngine_g (args : List AV) (st : St) (k : K1) : Option Res :=
  onPats [.agg [.lst tVersion, .lst tTxn, .lst tTxn, .int .i64, .int .i64, .lst tTxn]] [] args st (fun p q => laws_toEngine_k ((p.1.1, (p.1.2.1, (p.1.2.2.1, (p.1.2.2.2.1, p.1.2.2.2.2.1)))), p.1.2.2.2.2.2.1) (fun (y : (Int × Int × (List dVersion) × (List dTxn) × (List dTxn) × (List dTxn))) => k (.agg [.own 0, .own 1, .own 2, .int .i64 y.1, .int .i64 y.2.1, .own 3]) [.arr tVersion y.2.2.1, .dep tTxn y.2.2.2.1 0, .dep tTxn y.2.2.2.2.1 0, .dep tTxn y.2.2.2.2.2 0]))
    (none)

theorem laws_toEngine_q (a0 : (List dVersion)) (a1 : (List dTxn)) (a2 : (List dTxn)) (a3 : Int) (a4 : Int) (a5 : (List dTxn)) : Par (fun k : AV × St → Option Res => laws_toEngine_g [.agg [.lst tVersion a0, .lst tTxn a1, .lst tTxn a2, .int .i64 a3, .int .i64 a4, .lst tTxn a5]] [] (fun v s => k (v, s))) :=
  (laws_toEngine_p ((a0, (a1, (a2, (a3, a4)))), a5)).bind (H := fun (y : (Int × Int × (List dVersion) × (List dTxn) × (List dTxn) × (List dTxn))) (k : AV × St → Option Res) => (fun (y : (Int × Int × (List dVersion) × (List dTxn) × (List dTxn) × (List dTxn))) => k ((.agg [.own 0, .own 1, .own 2, .int .i64 y.1, .int .i64 y.2.1, .own 3] : AV), ([.arr tVersion y.2.2.1, .dep tTxn y.2.2.2.1 0, .dep tTxn y.2.2.2.2.1 0, .dep tTxn y.2.2.2.2.2 0] : St))) y) (fun y => par_ret _)

def laws_toStringS_g (args : List AV) (st : St) (k : K1) : Option Res :=
  onPats [.lst .str] [] args st (fun p q => laws_toStringS_k p.1 (fun (y : (List ByteArray)) => k (.own 0) [.arr .str y]))
    (none)

theorem laws_toStringS_q (a0 : (List ByteArray)) : Par (fun k : AV × St → Option Res => laws_toStringS_g [.lst .str a0] [] (fun v s => k (v, s))) :=
  (laws_toStringS_p a0).bind (H := fun (y : (List ByteArray)) (k : AV × St → Option Res) => (fun (y : (List ByteArray)) => k ((.own 0 : AV), ([.arr .str y] : St))) y) (fun y => par_ret _)

def laws_toPut_g (args : List AV) (st : St) (k : K1) : Option Res :=
  onPats [.agg [.int .i64, .str]] [] args st (fun p q => laws_toPut_k (p.1.1, p.1.2.1) (fun (y : (Int × ByteArray)) => k (.agg [.int .i64 y.1, .str y.2]) []))
    (none)

theorem laws_toPut_q (a0 : Int) (a1 : ByteArray) : Par (fun k : AV × St → Option Res => laws_toPut_g [.agg [.int .i64 a0, .str a1]] [] (fun v s => k (v, s))) :=
  (laws_toPut_p (a0, a1)).bind (H := fun (y : (Int × ByteArray)) (k : AV × St → Option Res) => (fun (y : (Int × ByteArray)) => k ((.agg [.int .i64 y.1, .str y.2] : AV), ([] : St))) y) (fun y => par_ret _)

def laws_toPutS_g (args : List AV) (st : St) (k : K1) : Option Res :=
  onPats [.lst tPut] [] args st (fun p q => laws_toPutS_k p.1 (fun (y : (List dPut)) => k (.own 0) [.arr tPut y]))
    (none)

theorem laws_toPutS_q (a0 : (List dPut)) : Par (fun k : AV × St → Option Res => laws_toPutS_g [.lst tPut a0] [] (fun v s => k (v, s))) :=
  (laws_toPutS_p a0).bind (H := fun (y : (List dPut)) (k : AV × St → Option Res) => (fun (y : (List dPut)) => k ((.own 0 : AV), ([.arr tPut y] : St))) y) (fun y => par_ret _)

def laws_toDisk_g (args : List AV) (st : St) (k : K1) : Option Res :=
  onPats [.agg [.lst .str, .lst tPut]] [] args st (fun p q => laws_toDisk_k (p.1.1, p.1.2.1) (fun (y : ((List ByteArray) × (List dPut))) => k (.agg [.own 0, .own 1]) [.arr .str y.1, .arr tPut y.2]))
    (none)

theorem laws_toDisk_q (a0 : (List ByteArray)) (a1 : (List dPut)) : Par (fun k : AV × St → Option Res => laws_toDisk_g [.agg [.lst .str a0, .lst tPut a1]] [] (fun v s => k (v, s))) :=
  (laws_toDisk_p (a0, a1)).bind (H := fun (y : ((List ByteArray) × (List dPut))) (k : AV × St → Option Res) => (fun (y : ((List ByteArray) × (List dPut))) => k ((.agg [.own 0, .own 1] : AV), ([.arr .str y.1, .arr tPut y.2] : St))) y) (fun y => par_ret _)

def laws_toStore_g (args : List AV) (st : St) (k : K1) : Option Res :=
  onPats [.agg [.lst tVersion, .lst tTxn, .lst tTxn, .int .i64, .int .i64, .lst tTxn, .lst .str, .lst tPut]] [] args st (fun p q => laws_toStore_k (((p.1.1, (p.1.2.1, (p.1.2.2.1, (p.1.2.2.2.1, p.1.2.2.2.2.1)))), p.1.2.2.2.2.2.1), (p.1.2.2.2.2.2.2.1, p.1.2.2.2.2.2.2.2.1)) (fun (y : (Int × Int × (List dVersion) × (List dTxn) × (List dTxn) × (List dTxn) × (List ByteArray) × (List dPut))) => k (.agg [.own 0, .own 1, .own 2, .int .i64 y.1, .int .i64 y.2.1, .own 3, .own 4, .own 5]) [.arr tVersion y.2.2.1, .dep tTxn y.2.2.2.1 0, .dep tTxn y.2.2.2.2.1 0, .dep tTxn y.2.2.2.2.2.1 0, .arr .str y.2.2.2.2.2.2.1, .arr tPut y.2.2.2.2.2.2.2]))
    (none)

theorem laws_toStore_q (a0 : (List dVersion)) (a1 : (List dTxn)) (a2 : (List dTxn)) (a3 : Int) (a4 : Int) (a5 : (List dTxn)) (a6 : (List ByteArray)) (a7 : (List dPut)) : Par (fun k : AV × St → Option Res => laws_toStore_g [.agg [.lst tVersion a0, .lst tTxn a1, .lst tTxn a2, .int .i64 a3, .int .i64 a4, .lst tTxn a5, .lst .str a6, .lst tPut a7]] [] (fun v s => k (v, s))) :=
  (laws_toStore_p (((a0, (a1, (a2, (a3, a4)))), a5), (a6, a7))).bind (H := fun (y : (Int × Int × (List dVersion) × (List dTxn) × (List dTxn) × (List dTxn) × (List ByteArray) × (List dPut))) (k : AV × St → Option Res) => (fun (y : (Int × Int × (List dVersion) × (List dTxn) × (List dTxn) × (List dTxn) × (List ByteArray) × (List dPut))) => k ((.agg [.own 0, .own 1, .own 2, .int .i64 y.1, .int .i64 y.2.1, .own 3, .own 4, .own 5] : AV), ([.arr tVersion y.2.2.1, .dep tTxn y.2.2.2.1 0, .dep tTxn y.2.2.2.2.1 0, .dep tTxn y.2.2.2.2.2.1 0, .arr .str y.2.2.2.2.2.2.1, .arr tPut y.2.2.2.2.2.2.2] : St))) y) (fun y => par_ret _)

def spec_InDoubt_g (args : List AV) (st : St) (k : K1) : Option Res :=
  onPats [.agg [.lst tVersion, .lst tTxn, .lst tTxn, .int .i64, .int .i64, .lst tTxn, .lst .str, .lst tPut]] [] args st (fun p q => spec_InDoubt_k (((p.1.1, (p.1.2.1, (p.1.2.2.1, (p.1.2.2.2.1, p.1.2.2.2.2.1)))), p.1.2.2.2.2.2.1), (p.1.2.2.2.2.2.2.1, p.1.2.2.2.2.2.2.2.1)) (fun (y : (List ByteArray)) => k (.own 0) [.arr .str y]))
    (none)

theorem spec_InDoubt_q (a0 : (List dVersion)) (a1 : (List dTxn)) (a2 : (List dTxn)) (a3 : Int) (a4 : Int) (a5 : (List dTxn)) (a6 : (List ByteArray)) (a7 : (List dPut)) : Par (fun k : AV × St → Option Res => spec_InDoubt_g [.agg [.lst tVersion a0, .lst tTxn a1, .lst tTxn a2, .int .i64 a3, .int .i64 a4, .lst tTxn a5, .lst .str a6, .lst tPut a7]] [] (fun v s => k (v, s))) :=
  (spec_InDoubt_p (((a0, (a1, (a2, (a3, a4)))), a5), (a6, a7))).bind (H := fun (y : (List ByteArray)) (k : AV × St → Option Res) => (fun (y : (List ByteArray)) => k ((.own 0 : AV), ([.arr .str y] : St))) y) (fun y => par_ret _)

def impl_InDoubt_g (args : List AV) (st : St) (k : K1) : Option Res :=
  onPats [.agg [.lst tVersion, .lst tTxn, .lst tTxn, .int .i64, .int .i64, .lst tTxn, .lst .str, .lst tPut]] [] args st (fun p q => impl_InDoubt_k (((p.1.1, (p.1.2.1, (p.1.2.2.1, (p.1.2.2.2.1, p.1.2.2.2.2.1)))), p.1.2.2.2.2.2.1), (p.1.2.2.2.2.2.2.1, p.1.2.2.2.2.2.2.2.1)) (fun (y : (List ByteArray)) => k (.own 0) [.arr .str y]))
    (none)

theorem impl_InDoubt_q (a0 : (List dVersion)) (a1 : (List dTxn)) (a2 : (List dTxn)) (a3 : Int) (a4 : Int) (a5 : (List dTxn)) (a6 : (List ByteArray)) (a7 : (List dPut)) : Par (fun k : AV × St → Option Res => impl_InDoubt_g [.agg [.lst tVersion a0, .lst tTxn a1, .lst tTxn a2, .int .i64 a3, .int .i64 a4, .lst tTxn a5, .lst .str a6, .lst tPut a7]] [] (fun v s => k (v, s))) :=
  (impl_InDoubt_p (((a0, (a1, (a2, (a3, a4)))), a5), (a6, a7))).bind (H := fun (y : (List ByteArray)) (k : AV × St → Option Res) => (fun (y : (List ByteArray)) => k ((.own 0 : AV), ([.arr .str y] : St))) y) (fun y => par_ret _)

def laws_eqStringS_g (args : List AV) (st : St) (k : K1) : Option Res :=
  onPats [.lst .str, .lst .str] [] args st (fun p q => laws_eqStringS_k p.1 p.2.1 (fun (y : Bool) => k (.bool y) []))
    (none)

theorem laws_eqStringS_q (a0 : (List ByteArray)) (a1 : (List ByteArray)) : Par (fun k : AV × St → Option Res => laws_eqStringS_g [.lst .str a0, .lst .str a1] [] (fun v s => k (v, s))) :=
  (laws_eqStringS_p a0 a1).bind (H := fun (y : Bool) (k : AV × St → Option Res) => (fun (y : Bool) => k ((.bool y : AV), ([] : St))) y) (fun y => par_ret _)

def laws_eqVersion_g (args : List AV) (st : St) (k : K1) : Option Res :=
  onPats [.agg [.str, .str, .bool, .int .i64], .agg [.str, .str, .bool, .int .i64]] [] args st (fun p q => laws_eqVersion_k (p.1.1, (p.1.2.1, (p.1.2.2.1, p.1.2.2.2.1))) (p.2.1.1, (p.2.1.2.1, (p.2.1.2.2.1, p.2.1.2.2.2.1))) (fun (y : Bool) => k (.bool y) []))
    (none)

theorem laws_eqVersion_q (a0 : ByteArray) (a1 : ByteArray) (a2 : Bool) (a3 : Int) (a4 : ByteArray) (a5 : ByteArray) (a6 : Bool) (a7 : Int) : Par (fun k : AV × St → Option Res => laws_eqVersion_g [.agg [.str a0, .str a1, .bool a2, .int .i64 a3], .agg [.str a4, .str a5, .bool a6, .int .i64 a7]] [] (fun v s => k (v, s))) :=
  (laws_eqVersion_p (a0, (a1, (a2, a3))) (a4, (a5, (a6, a7)))).bind (H := fun (y : Bool) (k : AV × St → Option Res) => (fun (y : Bool) => k ((.bool y : AV), ([] : St))) y) (fun y => par_ret _)

def laws_eqVersionS_g (args : List AV) (st : St) (k : K1) : Option Res :=
  onPats [.lst tVersion, .lst tVersion] [] args st (fun p q => laws_eqVersionS_k p.1 p.2.1 (fun (y : Bool) => k (.bool y) []))
    (none)

theorem laws_eqVersionS_q (a0 : (List dVersion)) (a1 : (List dVersion)) : Par (fun k : AV × St → Option Res => laws_eqVersionS_g [.lst tVersion a0, .lst tVersion a1] [] (fun v s => k (v, s))) :=
  (laws_eqVersionS_p a0 a1).bind (H := fun (y : Bool) (k : AV × St → Option Res) => (fun (y : Bool) => k ((.bool y : AV), ([] : St))) y) (fun y => par_ret _)

def laws_eqRange_g (args : List AV) (st : St) (k : K1) : Option Res :=
  onPats [.agg [.str, .str], .agg [.str, .str]] [] args st (fun p q => laws_eqRange_k (p.1.1, p.1.2.1) (p.2.1.1, p.2.1.2.1) (fun (y : Bool) => k (.bool y) []))
    (none)

theorem laws_eqRange_q (a0 : ByteArray) (a1 : ByteArray) (a2 : ByteArray) (a3 : ByteArray) : Par (fun k : AV × St → Option Res => laws_eqRange_g [.agg [.str a0, .str a1], .agg [.str a2, .str a3]] [] (fun v s => k (v, s))) :=
  (laws_eqRange_p (a0, a1) (a2, a3)).bind (H := fun (y : Bool) (k : AV × St → Option Res) => (fun (y : Bool) => k ((.bool y : AV), ([] : St))) y) (fun y => par_ret _)

def laws_eqRangeS_g (args : List AV) (st : St) (k : K1) : Option Res :=
  onPats [.lst tRange, .lst tRange] [] args st (fun p q => laws_eqRangeS_k p.1 p.2.1 (fun (y : Bool) => k (.bool y) []))
    (none)

theorem laws_eqRangeS_q (a0 : (List dRange)) (a1 : (List dRange)) : Par (fun k : AV × St → Option Res => laws_eqRangeS_g [.lst tRange a0, .lst tRange a1] [] (fun v s => k (v, s))) :=
  (laws_eqRangeS_p a0 a1).bind (H := fun (y : Bool) (k : AV × St → Option Res) => (fun (y : Bool) => k ((.bool y : AV), ([] : St))) y) (fun y => par_ret _)

def laws_eqWrite_g (args : List AV) (st : St) (k : K1) : Option Res :=
  onPats [.agg [.str, .str, .bool], .agg [.str, .str, .bool]] [] args st (fun p q => laws_eqWrite_k (p.1.1, (p.1.2.1, p.1.2.2.1)) (p.2.1.1, (p.2.1.2.1, p.2.1.2.2.1)) (fun (y : Bool) => k (.bool y) []))
    (none)

theorem laws_eqWrite_q (a0 : ByteArray) (a1 : ByteArray) (a2 : Bool) (a3 : ByteArray) (a4 : ByteArray) (a5 : Bool) : Par (fun k : AV × St → Option Res => laws_eqWrite_g [.agg [.str a0, .str a1, .bool a2], .agg [.str a3, .str a4, .bool a5]] [] (fun v s => k (v, s))) :=
  (laws_eqWrite_p (a0, (a1, a2)) (a3, (a4, a5))).bind (H := fun (y : Bool) (k : AV × St → Option Res) => (fun (y : Bool) => k ((.bool y : AV), ([] : St))) y) (fun y => par_ret _)

def laws_eqWriteS_g (args : List AV) (st : St) (k : K1) : Option Res :=
  onPats [.lst tWrite, .lst tWrite] [] args st (fun p q => laws_eqWriteS_k p.1 p.2.1 (fun (y : Bool) => k (.bool y) []))
    (none)

theorem laws_eqWriteS_q (a0 : (List dWrite)) (a1 : (List dWrite)) : Par (fun k : AV × St → Option Res => laws_eqWriteS_g [.lst tWrite a0, .lst tWrite a1] [] (fun v s => k (v, s))) :=
  (laws_eqWriteS_p a0 a1).bind (H := fun (y : Bool) (k : AV × St → Option Res) => (fun (y : Bool) => k ((.bool y : AV), ([] : St))) y) (fun y => par_ret _)

def laws_eqTxn_g (args : List AV) (st : St) (k : K1) : Option Res :=
  onPats [.agg [.int .i64, .int .i64, .int .i64, .int .i64, .lst tRange, .lst tWrite, .bool, .str], .agg [.int .i64, .int .i64, .int .i64, .int .i64, .lst tRange, .lst tWrite, .bool, .str]] [] args st (fun p q => laws_eqTxn_k (p.1.1, (p.1.2.1, (p.1.2.2.1, (p.1.2.2.2.1, (p.1.2.2.2.2.1, (p.1.2.2.2.2.2.1, (p.1.2.2.2.2.2.2.1, p.1.2.2.2.2.2.2.2.1))))))) (p.2.1.1, (p.2.1.2.1, (p.2.1.2.2.1, (p.2.1.2.2.2.1, (p.2.1.2.2.2.2.1, (p.2.1.2.2.2.2.2.1, (p.2.1.2.2.2.2.2.2.1, p.2.1.2.2.2.2.2.2.2.1))))))) (fun (y : Bool) => k (.bool y) []))
    (none)

theorem laws_eqTxn_q (a0 : Int) (a1 : Int) (a2 : Int) (a3 : Int) (a4 : (List dRange)) (a5 : (List dWrite)) (a6 : Bool) (a7 : ByteArray) (a8 : Int) (a9 : Int) (a10 : Int) (a11 : Int) (a12 : (List dRange)) (a13 : (List dWrite)) (a14 : Bool) (a15 : ByteArray) : Par (fun k : AV × St → Option Res => laws_eqTxn_g [.agg [.int .i64 a0, .int .i64 a1, .int .i64 a2, .int .i64 a3, .lst tRange a4, .lst tWrite a5, .bool a6, .str a7], .agg [.int .i64 a8, .int .i64 a9, .int .i64 a10, .int .i64 a11, .lst tRange a12, .lst tWrite a13, .bool a14, .str a15]] [] (fun v s => k (v, s))) :=
  (laws_eqTxn_p (a0, (a1, (a2, (a3, (a4, (a5, (a6, a7))))))) (a8, (a9, (a10, (a11, (a12, (a13, (a14, a15)))))))).bind (H := fun (y : Bool) (k : AV × St → Option Res) => (fun (y : Bool) => k ((.bool y : AV), ([] : St))) y) (fun y => par_ret _)

def laws_eqTxnS_g (args : List AV) (st : St) (k : K1) : Option Res :=
  onPats [.lst tTxn, .lst tTxn] [] args st (fun p q => laws_eqTxnS_k p.1 p.2.1 (fun (y : Bool) => k (.bool y) []))
    (none)

theorem laws_eqTxnS_q (a0 : (List dTxn)) (a1 : (List dTxn)) : Par (fun k : AV × St → Option Res => laws_eqTxnS_g [.lst tTxn a0, .lst tTxn a1] [] (fun v s => k (v, s))) :=
  (laws_eqTxnS_p a0 a1).bind (H := fun (y : Bool) (k : AV × St → Option Res) => (fun (y : Bool) => k ((.bool y : AV), ([] : St))) y) (fun y => par_ret _)

def laws_eqBase_g (args : List AV) (st : St) (k : K1) : Option Res :=
  onPats [.agg [.lst tVersion, .lst tTxn, .lst tTxn, .int .i64, .int .i64], .agg [.lst tVersion, .lst tTxn, .lst tTxn, .int .i64, .int .i64]] [] args st (fun p q => laws_eqBase_k (p.1.1, (p.1.2.1, (p.1.2.2.1, (p.1.2.2.2.1, p.1.2.2.2.2.1)))) (p.2.1.1, (p.2.1.2.1, (p.2.1.2.2.1, (p.2.1.2.2.2.1, p.2.1.2.2.2.2.1)))) (fun (y : Bool) => k (.bool y) []))
    (none)

theorem laws_eqBase_q (a0 : (List dVersion)) (a1 : (List dTxn)) (a2 : (List dTxn)) (a3 : Int) (a4 : Int) (a5 : (List dVersion)) (a6 : (List dTxn)) (a7 : (List dTxn)) (a8 : Int) (a9 : Int) : Par (fun k : AV × St → Option Res => laws_eqBase_g [.agg [.lst tVersion a0, .lst tTxn a1, .lst tTxn a2, .int .i64 a3, .int .i64 a4], .agg [.lst tVersion a5, .lst tTxn a6, .lst tTxn a7, .int .i64 a8, .int .i64 a9]] [] (fun v s => k (v, s))) :=
  (laws_eqBase_p (a0, (a1, (a2, (a3, a4)))) (a5, (a6, (a7, (a8, a9))))).bind (H := fun (y : Bool) (k : AV × St → Option Res) => (fun (y : Bool) => k ((.bool y : AV), ([] : St))) y) (fun y => par_ret _)

def laws_eqEngine_g (args : List AV) (st : St) (k : K1) : Option Res :=
  onPats [.agg [.lst tVersion, .lst tTxn, .lst tTxn, .int .i64, .int .i64, .lst tTxn], .agg [.lst tVersion, .lst tTxn, .lst tTxn, .int .i64, .int .i64, .lst tTxn]] [] args st (fun p q => laws_eqEngine_k ((p.1.1, (p.1.2.1, (p.1.2.2.1, (p.1.2.2.2.1, p.1.2.2.2.2.1)))), p.1.2.2.2.2.2.1) ((p.2.1.1, (p.2.1.2.1, (p.2.1.2.2.1, (p.2.1.2.2.2.1, p.2.1.2.2.2.2.1)))), p.2.1.2.2.2.2.2.1) (fun (y : Bool) => k (.bool y) []))
    (none)

theorem laws_eqEngine_q (a0 : (List dVersion)) (a1 : (List dTxn)) (a2 : (List dTxn)) (a3 : Int) (a4 : Int) (a5 : (List dTxn)) (a6 : (List dVersion)) (a7 : (List dTxn)) (a8 : (List dTxn)) (a9 : Int) (a10 : Int) (a11 : (List dTxn)) : Par (fun k : AV × St → Option Res => laws_eqEngine_g [.agg [.lst tVersion a0, .lst tTxn a1, .lst tTxn a2, .int .i64 a3, .int .i64 a4, .lst tTxn a5], .agg [.lst tVersion a6, .lst tTxn a7, .lst tTxn a8, .int .i64 a9, .int .i64 a10, .lst tTxn a11]] [] (fun v s => k (v, s))) :=
  (laws_eqEngine_p ((a0, (a1, (a2, (a3, a4)))), a5) ((a6, (a7, (a8, (a9, a10)))), a11)).bind (H := fun (y : Bool) (k : AV × St → Option Res) => (fun (y : Bool) => k ((.bool y : AV), ([] : St))) y) (fun y => par_ret _)

def laws_eqPut_g (args : List AV) (st : St) (k : K1) : Option Res :=
  onPats [.agg [.int .i64, .str], .agg [.int .i64, .str]] [] args st (fun p q => laws_eqPut_k (p.1.1, p.1.2.1) (p.2.1.1, p.2.1.2.1) (fun (y : Bool) => k (.bool y) []))
    (none)

theorem laws_eqPut_q (a0 : Int) (a1 : ByteArray) (a2 : Int) (a3 : ByteArray) : Par (fun k : AV × St → Option Res => laws_eqPut_g [.agg [.int .i64 a0, .str a1], .agg [.int .i64 a2, .str a3]] [] (fun v s => k (v, s))) :=
  (laws_eqPut_p (a0, a1) (a2, a3)).bind (H := fun (y : Bool) (k : AV × St → Option Res) => (fun (y : Bool) => k ((.bool y : AV), ([] : St))) y) (fun y => par_ret _)

def laws_eqPutS_g (args : List AV) (st : St) (k : K1) : Option Res :=
  onPats [.lst tPut, .lst tPut] [] args st (fun p q => laws_eqPutS_k p.1 p.2.1 (fun (y : Bool) => k (.bool y) []))
    (none)

theorem laws_eqPutS_q (a0 : (List dPut)) (a1 : (List dPut)) : Par (fun k : AV × St → Option Res => laws_eqPutS_g [.lst tPut a0, .lst tPut a1] [] (fun v s => k (v, s))) :=
  (laws_eqPutS_p a0 a1).bind (H := fun (y : Bool) (k : AV × St → Option Res) => (fun (y : Bool) => k ((.bool y : AV), ([] : St))) y) (fun y => par_ret _)

def laws_eqDisk_g (args : List AV) (st : St) (k : K1) : Option Res :=
  onPats [.agg [.lst .str, .lst tPut], .agg [.lst .str, .lst tPut]] [] args st (fun p q => laws_eqDisk_k (p.1.1, p.1.2.1) (p.2.1.1, p.2.1.2.1) (fun (y : Bool) => k (.bool y) []))
    (none)

theorem laws_eqDisk_q (a0 : (List ByteArray)) (a1 : (List dPut)) (a2 : (List ByteArray)) (a3 : (List dPut)) : Par (fun k : AV × St → Option Res => laws_eqDisk_g [.agg [.lst .str a0, .lst tPut a1], .agg [.lst .str a2, .lst tPut a3]] [] (fun v s => k (v, s))) :=
  (laws_eqDisk_p (a0, a1) (a2, a3)).bind (H := fun (y : Bool) (k : AV × St → Option Res) => (fun (y : Bool) => k ((.bool y : AV), ([] : St))) y) (fun y => par_ret _)

def laws_eqStore_g (args : List AV) (st : St) (k : K1) : Option Res :=
  onPats [.agg [.lst tVersion, .lst tTxn, .lst tTxn, .int .i64, .int .i64, .lst tTxn, .lst .str, .lst tPut], .agg [.lst tVersion, .lst tTxn, .lst tTxn, .int .i64, .int .i64, .lst tTxn, .lst .str, .lst tPut]] [] args st (fun p q => laws_eqStore_k (((p.1.1, (p.1.2.1, (p.1.2.2.1, (p.1.2.2.2.1, p.1.2.2.2.2.1)))), p.1.2.2.2.2.2.1), (p.1.2.2.2.2.2.2.1, p.1.2.2.2.2.2.2.2.1)) (((p.2.1.1, (p.2.1.2.1, (p.2.1.2.2.1, (p.2.1.2.2.2.1, p.2.1.2.2.2.2.1)))), p.2.1.2.2.2.2.2.1), (p.2.1.2.2.2.2.2.2.1, p.2.1.2.2.2.2.2.2.2.1)) (fun (y : Bool) => k (.bool y) []))
    (none)

theorem laws_eqStore_q (a0 : (List dVersion)) (a1 : (List dTxn)) (a2 : (List dTxn)) (a3 : Int) (a4 : Int) (a5 : (List dTxn)) (a6 : (List ByteArray)) (a7 : (List dPut)) (a8 : (List dVersion)) (a9 : (List dTxn)) (a10 : (List dTxn)) (a11 : Int) (a12 : Int) (a13 : (List dTxn)) (a14 : (List ByteArray)) (a15 : (List dPut)) : Par (fun k : AV × St → Option Res => laws_eqStore_g [.agg [.lst tVersion a0, .lst tTxn a1, .lst tTxn a2, .int .i64 a3, .int .i64 a4, .lst tTxn a5, .lst .str a6, .lst tPut a7], .agg [.lst tVersion a8, .lst tTxn a9, .lst tTxn a10, .int .i64 a11, .int .i64 a12, .lst tTxn a13, .lst .str a14, .lst tPut a15]] [] (fun v s => k (v, s))) :=
  (laws_eqStore_p (((a0, (a1, (a2, (a3, a4)))), a5), (a6, a7)) (((a8, (a9, (a10, (a11, a12)))), a13), (a14, a15))).bind (H := fun (y : Bool) (k : AV × St → Option Res) => (fun (y : Bool) => k ((.bool y : AV), ([] : St))) y) (fun y => par_ret _)

def laws_markText_g (args : List AV) (st : St) (k : K1) : Option Res :=
  onPats [.int .i64] [] args st (fun p q => laws_markText_k p.1 (fun (y : ByteArray) => k (.str y) []))
    (none)

theorem laws_markText_q (a0 : Int) : Par (fun k : AV × St → Option Res => laws_markText_g [.int .i64 a0] [] (fun v s => k (v, s))) :=
  (laws_markText_p a0).bind (H := fun (y : ByteArray) (k : AV × St → Option Res) => (fun (y : ByteArray) => k ((.str y : AV), ([] : St))) y) (fun y => par_ret _)

def laws_markVersionS_g (args : List AV) (st : St) (k : K1) : Option Res :=
  onPats [.own 0, .int .i64] [.arr tVersion] args st (fun p q => laws_markVersionS_vo_k p.2.1 q.1 (fun (y : (Int × (List dVersion))) => k (.int .i64 y.1) [.arr tVersion y.2]))
    (none)

theorem laws_markVersionS_vo_q (a0 : Int) (a1 : (List dVersion)) : Par (fun k : AV × St → Option Res => laws_markVersionS_g [.own 0, .int .i64 a0] [.arr tVersion a1] (fun v s => k (v, s))) :=
  (laws_markVersionS_vo_p a0 a1).bind (H := fun (y : (Int × (List dVersion))) (k : AV × St → Option Res) => (fun (y : (Int × (List dVersion))) => k ((.int .i64 y.1 : AV), ([.arr tVersion y.2] : St))) y) (fun y => par_ret _)

def laws_markRangeS_g (args : List AV) (st : St) (k : K1) : Option Res :=
  onPats [.own 0, .int .i64] [.arr tRange] args st (fun p q => laws_markRangeS_vo_k p.2.1 q.1 (fun (y : (Int × (List dRange))) => k (.int .i64 y.1) [.arr tRange y.2]))
    (none)

theorem laws_markRangeS_vo_q (a0 : Int) (a1 : (List dRange)) : Par (fun k : AV × St → Option Res => laws_markRangeS_g [.own 0, .int .i64 a0] [.arr tRange a1] (fun v s => k (v, s))) :=
  (laws_markRangeS_vo_p a0 a1).bind (H := fun (y : (Int × (List dRange))) (k : AV × St → Option Res) => (fun (y : (Int × (List dRange))) => k ((.int .i64 y.1 : AV), ([.arr tRange y.2] : St))) y) (fun y => par_ret _)

def laws_markWriteS_g (args : List AV) (st : St) (k : K1) : Option Res :=
  onPats [.own 0, .int .i64] [.arr tWrite] args st (fun p q => laws_markWriteS_vo_k p.2.1 q.1 (fun (y : (Int × (List dWrite))) => k (.int .i64 y.1) [.arr tWrite y.2]))
    (none)

theorem laws_markWriteS_vo_q (a0 : Int) (a1 : (List dWrite)) : Par (fun k : AV × St → Option Res => laws_markWriteS_g [.own 0, .int .i64 a0] [.arr tWrite a1] (fun v s => k (v, s))) :=
  (laws_markWriteS_vo_p a0 a1).bind (H := fun (y : (Int × (List dWrite))) (k : AV × St → Option Res) => (fun (y : (Int × (List dWrite))) => k ((.int .i64 y.1 : AV), ([.arr tWrite y.2] : St))) y) (fun y => par_ret _)

def laws_markTxnS_g (args : List AV) (st : St) (k : K1) : Option Res :=
  onPats [.own 0, .int .i64] [.dep tTxn 0] args st (fun p q => laws_markTxnS_vd_k p.2.1 q.1 (fun (y : (Int × (List dTxn))) => k (.int .i64 y.1) [.dep tTxn y.2 0]))
    (none)

theorem laws_markTxnS_vd_q (a0 : Int) (a1 : (List dTxn)) : Par (fun k : AV × St → Option Res => laws_markTxnS_g [.own 0, .int .i64 a0] [.dep tTxn a1 0] (fun v s => k (v, s))) :=
  (laws_markTxnS_vd_p a0 a1).bind (H := fun (y : (Int × (List dTxn))) (k : AV × St → Option Res) => (fun (y : (Int × (List dTxn))) => k ((.int .i64 y.1 : AV), ([.dep tTxn y.2 0] : St))) y) (fun y => par_ret _)

def laws_markBase_g (args : List AV) (st : St) (k : K1) : Option Res :=
  onPats [.agg [.own 0, .own 1, .own 2, .int .i64, .int .i64], .int .i64] [.arr tVersion, .dep tTxn 0, .dep tTxn 0] args st (fun p q => laws_markBase_vAodd_k p.1.2.2.2.1 p.1.2.2.2.2.1 p.2.1 q.1 q.2.1 q.2.2.1 (fun (y : (Int × (List dVersion) × (List dTxn) × (List dTxn))) => k (.int .i64 y.1) [.arr tVersion y.2.1, .dep tTxn y.2.2.1 0, .dep tTxn y.2.2.2 0]))
    (none)

theorem laws_markBase_vAodd_q (a0 : Int) (a1 : Int) (a2 : Int) (a3 : (List dVersion)) (a4 : (List dTxn)) (a5 : (List dTxn)) : Par (fun k : AV × St → Option Res => laws_markBase_g [.agg [.own 0, .own 1, .own 2, .int .i64 a0, .int .i64 a1], .int .i64 a2] [.arr tVersion a3, .dep tTxn a4 0, .dep tTxn a5 0] (fun v s => k (v, s))) :=
  (laws_markBase_vAodd_p a0 a1 a2 a3 a4 a5).bind (H := fun (y : (Int × (List dVersion) × (List dTxn) × (List dTxn))) (k : AV × St → Option Res) => (fun (y : (Int × (List dVersion) × (List dTxn) × (List dTxn))) => k ((.int .i64 y.1 : AV), ([.arr tVersion y.2.1, .dep tTxn y.2.2.1 0, .dep tTxn y.2.2.2 0] : St))) y) (fun y => par_ret _)

def laws_markEngine_g (args : List AV) (st : St) (k : K1) : Option Res :=
  onPats [.agg [.own 0, .own 1, .own 2, .int .i64, .int .i64, .own 3], .int .i64] [.arr tVersion, .dep tTxn 0, .dep tTxn 0, .dep tTxn 0] args st (fun p q => laws_markEngine_vAoddd_k p.1.2.2.2.1 p.1.2.2.2.2.1 p.2.1 q.1 q.2.1 q.2.2.1 q.2.2.2.1 (fun (y : (Int × (List dVersion) × (List dTxn) × (List dTxn) × (List dTxn))) => k (.int .i64 y.1) [.arr tVersion y.2.1, .dep tTxn y.2.2.1 0, .dep tTxn y.2.2.2.1 0, .dep tTxn y.2.2.2.2 0]))
    (none)

theorem laws_markEngine_vAoddd_q (a0 : Int) (a1 : Int) (a2 : Int) (a3 : (List dVersion)) (a4 : (List dTxn)) (a5 : (List dTxn)) (a6 : (List dTxn)) : Par (fun k : AV × St → Option Res => laws_markEngine_g [.agg [.own 0, .own 1, .own 2, .int .i64 a0, .int .i64 a1, .own 3], .int .i64 a2] [.arr tVersion a3, .dep tTxn a4 0, .dep tTxn a5 0, .dep tTxn a6 0] (fun v s => k (v, s))) :=
  (laws_markEngine_vAoddd_p a0 a1 a2 a3 a4 a5 a6).bind (H := fun (y : (Int × (List dVersion) × (List dTxn) × (List dTxn) × (List dTxn))) (k : AV × St → Option Res) => (fun (y : (Int × (List dVersion) × (List dTxn) × (List dTxn) × (List dTxn))) => k ((.int .i64 y.1 : AV), ([.arr tVersion y.2.1, .dep tTxn y.2.2.1 0, .dep tTxn y.2.2.2.1 0, .dep tTxn y.2.2.2.2 0] : St))) y) (fun y => par_ret _)

def laws_markStringS_g (args : List AV) (st : St) (k : K1) : Option Res :=
  onPats [.own 0, .int .i64] [.arr .str] args st (fun p q => laws_markStringS_vo_k p.2.1 q.1 (fun (y : (Int × (List ByteArray))) => k (.int .i64 y.1) [.arr .str y.2]))
    (none)

theorem laws_markStringS_vo_q (a0 : Int) (a1 : (List ByteArray)) : Par (fun k : AV × St → Option Res => laws_markStringS_g [.own 0, .int .i64 a0] [.arr .str a1] (fun v s => k (v, s))) :=
  (laws_markStringS_vo_p a0 a1).bind (H := fun (y : (Int × (List ByteArray))) (k : AV × St → Option Res) => (fun (y : (Int × (List ByteArray))) => k ((.int .i64 y.1 : AV), ([.arr .str y.2] : St))) y) (fun y => par_ret _)

def laws_markPutS_g (args : List AV) (st : St) (k : K1) : Option Res :=
  onPats [.own 0, .int .i64] [.arr tPut] args st (fun p q => laws_markPutS_vo_k p.2.1 q.1 (fun (y : (Int × (List dPut))) => k (.int .i64 y.1) [.arr tPut y.2]))
    (none)

theorem laws_markPutS_vo_q (a0 : Int) (a1 : (List dPut)) : Par (fun k : AV × St → Option Res => laws_markPutS_g [.own 0, .int .i64 a0] [.arr tPut a1] (fun v s => k (v, s))) :=
  (laws_markPutS_vo_p a0 a1).bind (H := fun (y : (Int × (List dPut))) (k : AV × St → Option Res) => (fun (y : (Int × (List dPut))) => k ((.int .i64 y.1 : AV), ([.arr tPut y.2] : St))) y) (fun y => par_ret _)

def laws_markDisk_g (args : List AV) (st : St) (k : K1) : Option Res :=
  onPats [.agg [.own 0, .own 1], .int .i64] [.arr .str, .arr tPut] args st (fun p q => laws_markDisk_va_k p.2.1 q.1 q.2.1 (fun (y : (Int × (List ByteArray) × (List dPut))) => k (.int .i64 y.1) [.arr .str y.2.1, .arr tPut y.2.2]))
    (none)

theorem laws_markDisk_va_q (a0 : Int) (a1 : (List ByteArray)) (a2 : (List dPut)) : Par (fun k : AV × St → Option Res => laws_markDisk_g [.agg [.own 0, .own 1], .int .i64 a0] [.arr .str a1, .arr tPut a2] (fun v s => k (v, s))) :=
  (laws_markDisk_va_p a0 a1 a2).bind (H := fun (y : (Int × (List ByteArray) × (List dPut))) (k : AV × St → Option Res) => (fun (y : (Int × (List ByteArray) × (List dPut))) => k ((.int .i64 y.1 : AV), ([.arr .str y.2.1, .arr tPut y.2.2] : St))) y) (fun y => par_ret _)

def laws_markStore_g (args : List AV) (st : St) (k : K1) : Option Res :=
  onPats [.agg [.own 0, .own 1, .own 2, .int .i64, .int .i64, .own 3, .own 4, .own 5], .int .i64] [.arr tVersion, .dep tTxn 0, .dep tTxn 0, .dep tTxn 0, .arr .str, .arr tPut] args st (fun p q => laws_markStore_vAodddoo_k p.1.2.2.2.1 p.1.2.2.2.2.1 p.2.1 q.1 q.2.1 q.2.2.1 q.2.2.2.1 q.2.2.2.2.1 q.2.2.2.2.2.1 (fun (y : (Int × (List dVersion) × (List dTxn) × (List dTxn) × (List dTxn) × (List ByteArray) × (List dPut))) => k (.int .i64 y.1) [.arr tVersion y.2.1, .dep tTxn y.2.2.1 0, .dep tTxn y.2.2.2.1 0, .dep tTxn y.2.2.2.2.1 0, .arr .str y.2.2.2.2.2.1, .arr tPut y.2.2.2.2.2.2]))
    (none)

theorem laws_markStore_vAodddoo_q (a0 : Int) (a1 : Int) (a2 : Int) (a3 : (List dVersion)) (a4 : (List dTxn)) (a5 : (List dTxn)) (a6 : (List dTxn)) (a7 : (List ByteArray)) (a8 : (List dPut)) : Par (fun k : AV × St → Option Res => laws_markStore_g [.agg [.own 0, .own 1, .own 2, .int .i64 a0, .int .i64 a1, .own 3, .own 4, .own 5], .int .i64 a2] [.arr tVersion a3, .dep tTxn a4 0, .dep tTxn a5 0, .dep tTxn a6 0, .arr .str a7, .arr tPut a8] (fun v s => k (v, s))) :=
  (laws_markStore_vAodddoo_p a0 a1 a2 a3 a4 a5 a6 a7 a8).bind (H := fun (y : (Int × (List dVersion) × (List dTxn) × (List dTxn) × (List dTxn) × (List ByteArray) × (List dPut))) (k : AV × St → Option Res) => (fun (y : (Int × (List dVersion) × (List dTxn) × (List dTxn) × (List dTxn) × (List ByteArray) × (List dPut))) => k ((.int .i64 y.1 : AV), ([.arr tVersion y.2.1, .dep tTxn y.2.2.1 0, .dep tTxn y.2.2.2.1 0, .dep tTxn y.2.2.2.2.1 0, .arr .str y.2.2.2.2.2.1, .arr tPut y.2.2.2.2.2.2] : St))) y) (fun y => par_ret _)

def laws_heldStringS_g (args : List AV) (st : St) (k : K1) : Option Res :=
  onPats [.lst .str, .int .i64] [] args st (fun p q => laws_heldStringS_k p.1 p.2.1 (fun (y : Int) => k (.int .i64 y) []))
    (none)

theorem laws_heldStringS_q (a0 : (List ByteArray)) (a1 : Int) : Par (fun k : AV × St → Option Res => laws_heldStringS_g [.lst .str a0, .int .i64 a1] [] (fun v s => k (v, s))) :=
  (laws_heldStringS_p a0 a1).bind (H := fun (y : Int) (k : AV × St → Option Res) => (fun (y : Int) => k ((.int .i64 y : AV), ([] : St))) y) (fun y => par_ret _)

def laws_FnExactInDoubt_g (args : List AV) (st : St) (k : K1) : Option Res :=
  onPats [.agg [.lst tVersion, .lst tTxn, .lst tTxn, .int .i64, .int .i64, .lst tTxn, .lst .str, .lst tPut]] [] args st (fun p q => laws_FnExactInDoubt_k (((p.1.1, (p.1.2.1, (p.1.2.2.1, (p.1.2.2.2.1, p.1.2.2.2.2.1)))), p.1.2.2.2.2.2.1), (p.1.2.2.2.2.2.2.1, p.1.2.2.2.2.2.2.2.1)) (fun (y : Bool) => k (.bool y) []))
    (none)

theorem laws_FnExactInDoubt_q (a0 : (List dVersion)) (a1 : (List dTxn)) (a2 : (List dTxn)) (a3 : Int) (a4 : Int) (a5 : (List dTxn)) (a6 : (List ByteArray)) (a7 : (List dPut)) : Par (fun k : AV × St → Option Res => laws_FnExactInDoubt_g [.agg [.lst tVersion a0, .lst tTxn a1, .lst tTxn a2, .int .i64 a3, .int .i64 a4, .lst tTxn a5, .lst .str a6, .lst tPut a7]] [] (fun v s => k (v, s))) :=
  (laws_FnExactInDoubt_p (((a0, (a1, (a2, (a3, a4)))), a5), (a6, a7))).bind (H := fun (y : Bool) (k : AV × St → Option Res) => (fun (y : Bool) => k ((.bool y : AV), ([] : St))) y) (fun y => par_ret _)

end

end Go.VE
