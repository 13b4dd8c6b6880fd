/- Native programs of the functions, written by gen.py. -/

import Derived.Test.YteolgjmeigifbaaRecordTextN1

namespace Go.VE

noncomputable section

set_option linter.unusedVariables false
set_option linter.unusedSimpArgs false
set_option maxRecDepth 100000


def laws_eqRangeS_b0 (x : q4T) (k : q4T ⊕ (q4T ⊕ q4T) → Option Res) : Option Res :=
    bif (decide (x.2.2.2 < (x.1.length : Int))) then
      if 0 ≤ x.2.2.2 ∧ x.2.2.2 < (x.1.length : Int) then
        if 0 ≤ x.2.2.2 ∧ x.2.2.2 < (x.2.1.length : Int) then
          laws_eqRange_k (rd (Ty.zero tRange) x.1 x.2.2.2) (rd (Ty.zero tRange) x.2.1 x.2.2.2) (fun y3 =>
            bif (!y3) then
              k (.inr (.inl (x.1, x.2.1, false, x.2.2.2)))
            else
              k (.inl (x.1, x.2.1, x.2.2.1, (IntKind.wrap .i64 (x.2.2.2 + (1 : Int))))))
        else none
      else none
    else
      k (.inr (.inr (x.1, x.2.1, x.2.2.1, x.2.2.2)))

theorem laws_eqRangeS_bp0 (x : q4T) : Par (laws_eqRangeS_b0 x) := by
  unfold laws_eqRangeS_b0
  exact (par_bif (par_ite (c := 0 ≤ x.2.2.2 ∧ x.2.2.2 < (x.1.length : Int)) (par_ite (c := 0 ≤ x.2.2.2 ∧ x.2.2.2 < (x.2.1.length : Int)) ((laws_eqRange_p (rd (Ty.zero tRange) x.1 x.2.2.2) (rd (Ty.zero tRange) x.2.1 x.2.2.2)).bind fun y3 => (par_bif (par_ret _) (par_ret _))) par_none) par_none) (par_ret _))

def laws_eqRangeS_d (a0 : (List dRange)) (a1 : (List dRange)) (k : Bool → Option Res) : Option Res :=
  bif ((a0.length : Int) != (a1.length : Int)) then
    k false
  else
    loopK laws_eqRangeS_b0 Fuel (a0, a1, false, (0 : Int)) (Sum.elim (fun z1 =>
      k z1.2.2.1) (fun _ =>
      k true))

theorem laws_eqRangeS_h : ∃ g : (List dRange) → (List dRange) → (Bool → Option Res) → Option Res, g = laws_eqRangeS_d := ⟨_, rfl⟩
def laws_eqRangeS_k : (List dRange) → (List dRange) → (Bool → Option Res) → Option Res := Classical.choose laws_eqRangeS_h
theorem laws_eqRangeS_e : laws_eqRangeS_k = laws_eqRangeS_d := Classical.choose_spec laws_eqRangeS_h

theorem laws_eqRangeS_p (a0 : (List dRange)) (a1 : (List dRange)) : Par (laws_eqRangeS_k a0 a1) := by
  rw [laws_eqRangeS_e]
  unfold laws_eqRangeS_d
  exact (par_bif (par_ret _) ((par_loop laws_eqRangeS_bp0 Fuel (a0, a1, false, (0 : Int))).bind2 (fun z1 => (par_ret _)) (fun z2 => (par_ret _))))

def laws_eqWrite_d (a0 : dWrite) (a1 : dWrite) (k : Bool → Option Res) : Option Res :=
  bif (!(strEq a0.1 a1.1)) then
    k false
  else
    bif (!(strEq a0.2.1 a1.2.1)) then
      k false
    else
      bif (!(a0.2.2 == a1.2.2)) then
        k false
      else
        k true

theorem laws_eqWrite_h : ∃ g : dWrite → dWrite → (Bool → Option Res) → Option Res, g = laws_eqWrite_d := ⟨_, rfl⟩
def laws_eqWrite_k : dWrite → dWrite → (Bool → Option Res) → Option Res := Classical.choose laws_eqWrite_h
theorem laws_eqWrite_e : laws_eqWrite_k = laws_eqWrite_d := Classical.choose_spec laws_eqWrite_h

theorem laws_eqWrite_p (a0 : dWrite) (a1 : dWrite) : Par (laws_eqWrite_k a0 a1) := by
  rw [laws_eqWrite_e]
  unfold laws_eqWrite_d
  exact (par_bif (par_ret _) (par_bif (par_ret _) (par_bif (par_ret _) (par_ret _))))

def laws_eqWriteS_b0 (x : q20T) (k : q20T ⊕ (q20T ⊕ q20T) → Option Res) : Option Res :=
    bif (decide (x.2.2.2 < (x.1.length : Int))) then
      if 0 ≤ x.2.2.2 ∧ x.2.2.2 < (x.1.length : Int) then
        if 0 ≤ x.2.2.2 ∧ x.2.2.2 < (x.2.1.length : Int) then
          laws_eqWrite_k (rd (Ty.zero tWrite) x.1 x.2.2.2) (rd (Ty.zero tWrite) x.2.1 x.2.2.2) (fun y3 =>
            bif (!y3) then
              k (.inr (.inl (x.1, x.2.1, false, x.2.2.2)))
            else
              k (.inl (x.1, x.2.1, x.2.2.1, (IntKind.wrap .i64 (x.2.2.2 + (1 : Int))))))
        else none
      else none
    else
      k (.inr (.inr (x.1, x.2.1, x.2.2.1, x.2.2.2)))

theorem laws_eqWriteS_bp0 (x : q20T) : Par (laws_eqWriteS_b0 x) := by
  unfold laws_eqWriteS_b0
  exact (par_bif (par_ite (c := 0 ≤ x.2.2.2 ∧ x.2.2.2 < (x.1.length : Int)) (par_ite (c := 0 ≤ x.2.2.2 ∧ x.2.2.2 < (x.2.1.length : Int)) ((laws_eqWrite_p (rd (Ty.zero tWrite) x.1 x.2.2.2) (rd (Ty.zero tWrite) x.2.1 x.2.2.2)).bind fun y3 => (par_bif (par_ret _) (par_ret _))) par_none) par_none) (par_ret _))

def laws_eqWriteS_d (a0 : (List dWrite)) (a1 : (List dWrite)) (k : Bool → Option Res) : Option Res :=
  bif ((a0.length : Int) != (a1.length : Int)) then
    k false
  else
    loopK laws_eqWriteS_b0 Fuel (a0, a1, false, (0 : Int)) (Sum.elim (fun z1 =>
      k z1.2.2.1) (fun _ =>
      k true))

theorem laws_eqWriteS_h : ∃ g : (List dWrite) → (List dWrite) → (Bool → Option Res) → Option Res, g = laws_eqWriteS_d := ⟨_, rfl⟩
def laws_eqWriteS_k : (List dWrite) → (List dWrite) → (Bool → Option Res) → Option Res := Classical.choose laws_eqWriteS_h
theorem laws_eqWriteS_e : laws_eqWriteS_k = laws_eqWriteS_d := Classical.choose_spec laws_eqWriteS_h

theorem laws_eqWriteS_p (a0 : (List dWrite)) (a1 : (List dWrite)) : Par (laws_eqWriteS_k a0 a1) := by
  rw [laws_eqWriteS_e]
  unfold laws_eqWriteS_d
  exact (par_bif (par_ret _) ((par_loop laws_eqWriteS_bp0 Fuel (a0, a1, false, (0 : Int))).bind2 (fun z1 => (par_ret _)) (fun z2 => (par_ret _))))

def laws_eqTxn_d (a0 : dTxn) (a1 : dTxn) (k : Bool → Option Res) : Option Res :=
  bif (a0.1 != a1.1) then
    k false
  else
    bif (a0.2.1 != a1.2.1) then
      k false
    else
      bif (a0.2.2.1 != a1.2.2.1) then
        k false
      else
        bif (a0.2.2.2.1 != a1.2.2.2.1) then
          k false
        else
          laws_eqRangeS_k a0.2.2.2.2.1 a1.2.2.2.2.1 (fun y1 =>
            bif (!y1) then
              k false
            else
              laws_eqWriteS_k a0.2.2.2.2.2.1 a1.2.2.2.2.2.1 (fun y2 =>
                bif (!y2) then
                  k false
                else
                  bif (!(a0.2.2.2.2.2.2.1 == a1.2.2.2.2.2.2.1)) then
                    k false
                  else
                    bif (!(strEq a0.2.2.2.2.2.2.2 a1.2.2.2.2.2.2.2)) then
                      k false
                    else
                      k true))

theorem laws_eqTxn_h : ∃ g : dTxn → dTxn → (Bool → Option Res) → Option Res, g = laws_eqTxn_d := ⟨_, rfl⟩
def laws_eqTxn_k : dTxn → dTxn → (Bool → Option Res) → Option Res := Classical.choose laws_eqTxn_h
theorem laws_eqTxn_e : laws_eqTxn_k = laws_eqTxn_d := Classical.choose_spec laws_eqTxn_h

theorem laws_eqTxn_p (a0 : dTxn) (a1 : dTxn) : Par (laws_eqTxn_k a0 a1) := by
  rw [laws_eqTxn_e]
  unfold laws_eqTxn_d
  exact (par_bif (par_ret _) (par_bif (par_ret _) (par_bif (par_ret _) (par_bif (par_ret _) ((laws_eqRangeS_p a0.2.2.2.2.1 a1.2.2.2.2.1).bind fun y1 => (par_bif (par_ret _) ((laws_eqWriteS_p a0.2.2.2.2.2.1 a1.2.2.2.2.2.1).bind fun y2 => (par_bif (par_ret _) (par_bif (par_ret _) (par_bif (par_ret _) (par_ret _)))))))))))

def laws_eqVersion_d (a0 : dVersion) (a1 : dVersion) (k : Bool → Option Res) : Option Res :=
  bif (!(strEq a0.1 a1.1)) then
    k false
  else
    bif (!(strEq a0.2.1 a1.2.1)) then
      k false
    else
      bif (!(a0.2.2.1 == a1.2.2.1)) then
        k false
      else
        bif (a0.2.2.2 != a1.2.2.2) then
          k false
        else
          k true

theorem laws_eqVersion_h : ∃ g : dVersion → dVersion → (Bool → Option Res) → Option Res, g = laws_eqVersion_d := ⟨_, rfl⟩
def laws_eqVersion_k : dVersion → dVersion → (Bool → Option Res) → Option Res := Classical.choose laws_eqVersion_h
theorem laws_eqVersion_e : laws_eqVersion_k = laws_eqVersion_d := Classical.choose_spec laws_eqVersion_h

theorem laws_eqVersion_p (a0 : dVersion) (a1 : dVersion) : Par (laws_eqVersion_k a0 a1) := by
  rw [laws_eqVersion_e]
  unfold laws_eqVersion_d
  exact (par_bif (par_ret _) (par_bif (par_ret _) (par_bif (par_ret _) (par_bif (par_ret _) (par_ret _)))))

def laws_eqVersionS_b0 (x : q14T) (k : q14T ⊕ (q14T ⊕ q14T) → Option Res) : Option Res :=
    bif (decide (x.2.2.2 < (x.1.length : Int))) then
      if 0 ≤ x.2.2.2 ∧ x.2.2.2 < (x.1.length : Int) then
        if 0 ≤ x.2.2.2 ∧ x.2.2.2 < (x.2.1.length : Int) then
          laws_eqVersion_k (rd (Ty.zero tVersion) x.1 x.2.2.2) (rd (Ty.zero tVersion) x.2.1 x.2.2.2) (fun y3 =>
            bif (!y3) then
              k (.inr (.inl (x.1, x.2.1, false, x.2.2.2)))
            else
              k (.inl (x.1, x.2.1, x.2.2.1, (IntKind.wrap .i64 (x.2.2.2 + (1 : Int))))))
        else none
      else none
    else
      k (.inr (.inr (x.1, x.2.1, x.2.2.1, x.2.2.2)))

theorem laws_eqVersionS_bp0 (x : q14T) : Par (laws_eqVersionS_b0 x) := by
  unfold laws_eqVersionS_b0
  exact (par_bif (par_ite (c := 0 ≤ x.2.2.2 ∧ x.2.2.2 < (x.1.length : Int)) (par_ite (c := 0 ≤ x.2.2.2 ∧ x.2.2.2 < (x.2.1.length : Int)) ((laws_eqVersion_p (rd (Ty.zero tVersion) x.1 x.2.2.2) (rd (Ty.zero tVersion) x.2.1 x.2.2.2)).bind fun y3 => (par_bif (par_ret _) (par_ret _))) par_none) par_none) (par_ret _))

def laws_eqVersionS_d (a0 : (List dVersion)) (a1 : (List dVersion)) (k : Bool → Option Res) : Option Res :=
  bif ((a0.length : Int) != (a1.length : Int)) then
    k false
  else
    loopK laws_eqVersionS_b0 Fuel (a0, a1, false, (0 : Int)) (Sum.elim (fun z1 =>
      k z1.2.2.1) (fun _ =>
      k true))

theorem laws_eqVersionS_h : ∃ g : (List dVersion) → (List dVersion) → (Bool → Option Res) → Option Res, g = laws_eqVersionS_d := ⟨_, rfl⟩
def laws_eqVersionS_k : (List dVersion) → (List dVersion) → (Bool → Option Res) → Option Res := Classical.choose laws_eqVersionS_h
theorem laws_eqVersionS_e : laws_eqVersionS_k = laws_eqVersionS_d := Classical.choose_spec laws_eqVersionS_h

theorem laws_eqVersionS_p (a0 : (List dVersion)) (a1 : (List dVersion)) : Par (laws_eqVersionS_k a0 a1) := by
  rw [laws_eqVersionS_e]
  unfold laws_eqVersionS_d
  exact (par_bif (par_ret _) ((par_loop laws_eqVersionS_bp0 Fuel (a0, a1, false, (0 : Int))).bind2 (fun z1 => (par_ret _)) (fun z2 => (par_ret _))))

def laws_eqTxnS_b0 (x : q8T) (k : q8T ⊕ (q8T ⊕ q8T) → Option Res) : Option Res :=
    bif (decide (x.2.2.2 < (x.1.length : Int))) then
      if 0 ≤ x.2.2.2 ∧ x.2.2.2 < (x.1.length : Int) then
        if 0 ≤ x.2.2.2 ∧ x.2.2.2 < (x.2.1.length : Int) then
          laws_eqTxn_k (rd (Ty.zero tTxn) x.1 x.2.2.2) (rd (Ty.zero tTxn) x.2.1 x.2.2.2) (fun y3 =>
            bif (!y3) then
              k (.inr (.inl (x.1, x.2.1, false, x.2.2.2)))
            else
              k (.inl (x.1, x.2.1, x.2.2.1, (IntKind.wrap .i64 (x.2.2.2 + (1 : Int))))))
        else none
      else none
    else
      k (.inr (.inr (x.1, x.2.1, x.2.2.1, x.2.2.2)))

theorem laws_eqTxnS_bp0 (x : q8T) : Par (laws_eqTxnS_b0 x) := by
  unfold laws_eqTxnS_b0
  exact (par_bif (par_ite (c := 0 ≤ x.2.2.2 ∧ x.2.2.2 < (x.1.length : Int)) (par_ite (c := 0 ≤ x.2.2.2 ∧ x.2.2.2 < (x.2.1.length : Int)) ((laws_eqTxn_p (rd (Ty.zero tTxn) x.1 x.2.2.2) (rd (Ty.zero tTxn) x.2.1 x.2.2.2)).bind fun y3 => (par_bif (par_ret _) (par_ret _))) par_none) par_none) (par_ret _))

def laws_eqTxnS_d (a0 : (List dTxn)) (a1 : (List dTxn)) (k : Bool → Option Res) : Option Res :=
  bif ((a0.length : Int) != (a1.length : Int)) then
    k false
  else
    loopK laws_eqTxnS_b0 Fuel (a0, a1, false, (0 : Int)) (Sum.elim (fun z1 =>
      k z1.2.2.1) (fun _ =>
      k true))

theorem laws_eqTxnS_h : ∃ g : (List dTxn) → (List dTxn) → (Bool → Option Res) → Option Res, g = laws_eqTxnS_d := ⟨_, rfl⟩
def laws_eqTxnS_k : (List dTxn) → (List dTxn) → (Bool → Option Res) → Option Res := Classical.choose laws_eqTxnS_h
theorem laws_eqTxnS_e : laws_eqTxnS_k = laws_eqTxnS_d := Classical.choose_spec laws_eqTxnS_h

theorem laws_eqTxnS_p (a0 : (List dTxn)) (a1 : (List dTxn)) : Par (laws_eqTxnS_k a0 a1) := by
  rw [laws_eqTxnS_e]
  unfold laws_eqTxnS_d
  exact (par_bif (par_ret _) ((par_loop laws_eqTxnS_bp0 Fuel (a0, a1, false, (0 : Int))).bind2 (fun z1 => (par_ret _)) (fun z2 => (par_ret _))))

def laws_eqBase_d (a0 : dBase) (a1 : dBase) (k : Bool → Option Res) : Option Res :=
  laws_eqVersionS_k a0.1 a1.1 (fun y1 =>
    bif (!y1) then
      k false
    else
      laws_eqTxnS_k a0.2.1 a1.2.1 (fun y2 =>
        bif (!y2) then
          k false
        else
          laws_eqTxnS_k a0.2.2.1 a1.2.2.1 (fun y3 =>
            bif (!y3) then
              k false
            else
              bif (a0.2.2.2.1 != a1.2.2.2.1) then
                k false
              else
                bif (a0.2.2.2.2 != a1.2.2.2.2) then
                  k false
                else
                  k true)))

theorem laws_eqBase_h : ∃ g : dBase → dBase → (Bool → Option Res) → Option Res, g = laws_eqBase_d := ⟨_, rfl⟩
def laws_eqBase_k : dBase → dBase → (Bool → Option Res) → Option Res := Classical.choose laws_eqBase_h
theorem laws_eqBase_e : laws_eqBase_k = laws_eqBase_d := Classical.choose_spec laws_eqBase_h

theorem laws_eqBase_p (a0 : dBase) (a1 : dBase) : Par (laws_eqBase_k a0 a1) := by
  rw [laws_eqBase_e]
  unfold laws_eqBase_d
  exact ((laws_eqVersionS_p a0.1 a1.1).bind fun y1 => (par_bif (par_ret _) ((laws_eqTxnS_p a0.2.1 a1.2.1).bind fun y2 => (par_bif (par_ret _) ((laws_eqTxnS_p a0.2.2.1 a1.2.2.1).bind fun y3 => (par_bif (par_ret _) (par_bif (par_ret _) (par_bif (par_ret _) (par_ret _)))))))))

def laws_eqRecord_d (a0 : dRecord) (a1 : dRecord) (k : Bool → Option Res) : Option Res :=
  bif (a0.1 != a1.1) then
    k false
  else
    laws_eqTxn_k a0.2.1 a1.2.1 (fun y1 =>
      bif (!y1) then
        k false
      else
        bif (!(strEq a0.2.2.1 a1.2.2.1)) then
          k false
        else
          bif (!(a0.2.2.2.1 == a1.2.2.2.1)) then
            k false
          else
            laws_eqBase_k a0.2.2.2.2 a1.2.2.2.2 (fun y2 =>
              bif (!y2) then
                k false
              else
                k true))

theorem laws_eqRecord_h : ∃ g : dRecord → dRecord → (Bool → Option Res) → Option Res, g = laws_eqRecord_d := ⟨_, rfl⟩
def laws_eqRecord_k : dRecord → dRecord → (Bool → Option Res) → Option Res := Classical.choose laws_eqRecord_h
theorem laws_eqRecord_e : laws_eqRecord_k = laws_eqRecord_d := Classical.choose_spec laws_eqRecord_h

theorem laws_eqRecord_p (a0 : dRecord) (a1 : dRecord) : Par (laws_eqRecord_k a0 a1) := by
  rw [laws_eqRecord_e]
  unfold laws_eqRecord_d
  exact (par_bif (par_ret _) ((laws_eqTxn_p a0.2.1 a1.2.1).bind fun y1 => (par_bif (par_ret _) (par_bif (par_ret _) (par_bif (par_ret _) ((laws_eqBase_p a0.2.2.2.2 a1.2.2.2.2).bind fun y2 => (par_bif (par_ret _) (par_ret _))))))))

def laws_FnExactRecordText_j5000010 (x : q35T) (k : q35T → Option Res) : Option Res :=
    laws_toRecord_k (x.2.1, ((x.2.2.1, (x.2.2.2.1, (x.2.2.2.2.1, (x.2.2.2.2.2.1, (x.2.2.2.2.2.2.1, (x.2.2.2.2.2.2.2.1, (x.2.2.2.2.2.2.2.2.1, x.2.2.2.2.2.2.2.2.2.1))))))), (x.2.2.2.2.2.2.2.2.2.2.1, (x.2.2.2.2.2.2.2.2.2.2.2.1, (x.2.2.2.2.2.2.2.2.2.2.2.2.1, (x.2.2.2.2.2.2.2.2.2.2.2.2.2.1, (x.2.2.2.2.2.2.2.2.2.2.2.2.2.2.1, (x.2.2.2.2.2.2.2.2.2.2.2.2.2.2.2.1, x.2.2.2.2.2.2.2.2.2.2.2.2.2.2.2.2.1)))))))) (fun y7 =>
      laws_eqRecord_k (x.2.2.2.2.2.2.2.2.2.2.2.2.2.2.2.2.2.1, ((x.2.2.2.2.2.2.2.2.2.2.2.2.2.2.2.2.2.2.1, (x.2.2.2.2.2.2.2.2.2.2.2.2.2.2.2.2.2.2.2.1, (x.2.2.2.2.2.2.2.2.2.2.2.2.2.2.2.2.2.2.2.2.1, (x.2.2.2.2.2.2.2.2.2.2.2.2.2.2.2.2.2.2.2.2.2.1, (x.2.2.2.2.2.2.2.2.2.2.2.2.2.2.2.2.2.2.2.2.2.2.2.2.2.2.2.2.1, (x.2.2.2.2.2.2.2.2.2.2.2.2.2.2.2.2.2.2.2.2.2.2.2.2.2.2.2.2.2.1, (x.2.2.2.2.2.2.2.2.2.2.2.2.2.2.2.2.2.2.2.2.2.2.1, x.2.2.2.2.2.2.2.2.2.2.2.2.2.2.2.2.2.2.2.2.2.2.2.1))))))), (x.2.2.2.2.2.2.2.2.2.2.2.2.2.2.2.2.2.2.2.2.2.2.2.2.1, (x.2.2.2.2.2.2.2.2.2.2.2.2.2.2.2.2.2.2.2.2.2.2.2.2.2.1, (x.2.2.2.2.2.2.2.2.2.2.2.2.2.2.2.2.2.2.2.2.2.2.2.2.2.2.2.2.2.2.1, (x.2.2.2.2.2.2.2.2.2.2.2.2.2.2.2.2.2.2.2.2.2.2.2.2.2.2.2.2.2.2.2.1, (x.2.2.2.2.2.2.2.2.2.2.2.2.2.2.2.2.2.2.2.2.2.2.2.2.2.2.2.2.2.2.2.2, (x.2.2.2.2.2.2.2.2.2.2.2.2.2.2.2.2.2.2.2.2.2.2.2.2.2.2.1, x.2.2.2.2.2.2.2.2.2.2.2.2.2.2.2.2.2.2.2.2.2.2.2.2.2.2.2.1)))))))) (y7.1, ((y7.2.1, (y7.2.2.1, (y7.2.2.2.1, (y7.2.2.2.2.1, (y7.2.2.2.2.2.2.2.2.2.2.2.1, (y7.2.2.2.2.2.2.2.2.2.2.2.2.1, (y7.2.2.2.2.2.1, y7.2.2.2.2.2.2.1))))))), (y7.2.2.2.2.2.2.2.1, (y7.2.2.2.2.2.2.2.2.1, (y7.2.2.2.2.2.2.2.2.2.2.2.2.2.1, (y7.2.2.2.2.2.2.2.2.2.2.2.2.2.2.1, (y7.2.2.2.2.2.2.2.2.2.2.2.2.2.2.2, (y7.2.2.2.2.2.2.2.2.2.1, y7.2.2.2.2.2.2.2.2.2.2.1)))))))) (fun y8 =>
        bif (!y8) then
          k (false, x.2.1, x.2.2.1, x.2.2.2.1, x.2.2.2.2.1, x.2.2.2.2.2.1, x.2.2.2.2.2.2.1, x.2.2.2.2.2.2.2.1, x.2.2.2.2.2.2.2.2.1, x.2.2.2.2.2.2.2.2.2.1, x.2.2.2.2.2.2.2.2.2.2.1, x.2.2.2.2.2.2.2.2.2.2.2.1, x.2.2.2.2.2.2.2.2.2.2.2.2.1, x.2.2.2.2.2.2.2.2.2.2.2.2.2.1, x.2.2.2.2.2.2.2.2.2.2.2.2.2.2.1, x.2.2.2.2.2.2.2.2.2.2.2.2.2.2.2.1, x.2.2.2.2.2.2.2.2.2.2.2.2.2.2.2.2.1, x.2.2.2.2.2.2.2.2.2.2.2.2.2.2.2.2.2.1, x.2.2.2.2.2.2.2.2.2.2.2.2.2.2.2.2.2.2.1, x.2.2.2.2.2.2.2.2.2.2.2.2.2.2.2.2.2.2.2.1, x.2.2.2.2.2.2.2.2.2.2.2.2.2.2.2.2.2.2.2.2.1, x.2.2.2.2.2.2.2.2.2.2.2.2.2.2.2.2.2.2.2.2.2.1, x.2.2.2.2.2.2.2.2.2.2.2.2.2.2.2.2.2.2.2.2.2.2.1, x.2.2.2.2.2.2.2.2.2.2.2.2.2.2.2.2.2.2.2.2.2.2.2.1, x.2.2.2.2.2.2.2.2.2.2.2.2.2.2.2.2.2.2.2.2.2.2.2.2.1, x.2.2.2.2.2.2.2.2.2.2.2.2.2.2.2.2.2.2.2.2.2.2.2.2.2.1, x.2.2.2.2.2.2.2.2.2.2.2.2.2.2.2.2.2.2.2.2.2.2.2.2.2.2.1, x.2.2.2.2.2.2.2.2.2.2.2.2.2.2.2.2.2.2.2.2.2.2.2.2.2.2.2.1, x.2.2.2.2.2.2.2.2.2.2.2.2.2.2.2.2.2.2.2.2.2.2.2.2.2.2.2.2.1, x.2.2.2.2.2.2.2.2.2.2.2.2.2.2.2.2.2.2.2.2.2.2.2.2.2.2.2.2.2.1, x.2.2.2.2.2.2.2.2.2.2.2.2.2.2.2.2.2.2.2.2.2.2.2.2.2.2.2.2.2.2.1, x.2.2.2.2.2.2.2.2.2.2.2.2.2.2.2.2.2.2.2.2.2.2.2.2.2.2.2.2.2.2.2.1, x.2.2.2.2.2.2.2.2.2.2.2.2.2.2.2.2.2.2.2.2.2.2.2.2.2.2.2.2.2.2.2.2)
        else
          k (true, x.2.1, x.2.2.1, x.2.2.2.1, x.2.2.2.2.1, x.2.2.2.2.2.1, x.2.2.2.2.2.2.1, x.2.2.2.2.2.2.2.1, x.2.2.2.2.2.2.2.2.1, x.2.2.2.2.2.2.2.2.2.1, x.2.2.2.2.2.2.2.2.2.2.1, x.2.2.2.2.2.2.2.2.2.2.2.1, x.2.2.2.2.2.2.2.2.2.2.2.2.1, x.2.2.2.2.2.2.2.2.2.2.2.2.2.1, x.2.2.2.2.2.2.2.2.2.2.2.2.2.2.1, x.2.2.2.2.2.2.2.2.2.2.2.2.2.2.2.1, x.2.2.2.2.2.2.2.2.2.2.2.2.2.2.2.2.1, x.2.2.2.2.2.2.2.2.2.2.2.2.2.2.2.2.2.1, x.2.2.2.2.2.2.2.2.2.2.2.2.2.2.2.2.2.2.1, x.2.2.2.2.2.2.2.2.2.2.2.2.2.2.2.2.2.2.2.1, x.2.2.2.2.2.2.2.2.2.2.2.2.2.2.2.2.2.2.2.2.1, x.2.2.2.2.2.2.2.2.2.2.2.2.2.2.2.2.2.2.2.2.2.1, x.2.2.2.2.2.2.2.2.2.2.2.2.2.2.2.2.2.2.2.2.2.2.1, x.2.2.2.2.2.2.2.2.2.2.2.2.2.2.2.2.2.2.2.2.2.2.2.1, x.2.2.2.2.2.2.2.2.2.2.2.2.2.2.2.2.2.2.2.2.2.2.2.2.1, x.2.2.2.2.2.2.2.2.2.2.2.2.2.2.2.2.2.2.2.2.2.2.2.2.2.1, x.2.2.2.2.2.2.2.2.2.2.2.2.2.2.2.2.2.2.2.2.2.2.2.2.2.2.1, x.2.2.2.2.2.2.2.2.2.2.2.2.2.2.2.2.2.2.2.2.2.2.2.2.2.2.2.1, x.2.2.2.2.2.2.2.2.2.2.2.2.2.2.2.2.2.2.2.2.2.2.2.2.2.2.2.2.1, x.2.2.2.2.2.2.2.2.2.2.2.2.2.2.2.2.2.2.2.2.2.2.2.2.2.2.2.2.2.1, x.2.2.2.2.2.2.2.2.2.2.2.2.2.2.2.2.2.2.2.2.2.2.2.2.2.2.2.2.2.2.1, x.2.2.2.2.2.2.2.2.2.2.2.2.2.2.2.2.2.2.2.2.2.2.2.2.2.2.2.2.2.2.2.1, x.2.2.2.2.2.2.2.2.2.2.2.2.2.2.2.2.2.2.2.2.2.2.2.2.2.2.2.2.2.2.2.2)))

theorem laws_FnExactRecordText_jp5000010 (x : q35T) : Par (laws_FnExactRecordText_j5000010 x) := by
  unfold laws_FnExactRecordText_j5000010
  exact ((laws_toRecord_p (x.2.1, ((x.2.2.1, (x.2.2.2.1, (x.2.2.2.2.1, (x.2.2.2.2.2.1, (x.2.2.2.2.2.2.1, (x.2.2.2.2.2.2.2.1, (x.2.2.2.2.2.2.2.2.1, x.2.2.2.2.2.2.2.2.2.1))))))), (x.2.2.2.2.2.2.2.2.2.2.1, (x.2.2.2.2.2.2.2.2.2.2.2.1, (x.2.2.2.2.2.2.2.2.2.2.2.2.1, (x.2.2.2.2.2.2.2.2.2.2.2.2.2.1, (x.2.2.2.2.2.2.2.2.2.2.2.2.2.2.1, (x.2.2.2.2.2.2.2.2.2.2.2.2.2.2.2.1, x.2.2.2.2.2.2.2.2.2.2.2.2.2.2.2.2.1))))))))).bind fun y7 => ((laws_eqRecord_p (x.2.2.2.2.2.2.2.2.2.2.2.2.2.2.2.2.2.1, ((x.2.2.2.2.2.2.2.2.2.2.2.2.2.2.2.2.2.2.1, (x.2.2.2.2.2.2.2.2.2.2.2.2.2.2.2.2.2.2.2.1, (x.2.2.2.2.2.2.2.2.2.2.2.2.2.2.2.2.2.2.2.2.1, (x.2.2.2.2.2.2.2.2.2.2.2.2.2.2.2.2.2.2.2.2.2.1, (x.2.2.2.2.2.2.2.2.2.2.2.2.2.2.2.2.2.2.2.2.2.2.2.2.2.2.2.2.1, (x.2.2.2.2.2.2.2.2.2.2.2.2.2.2.2.2.2.2.2.2.2.2.2.2.2.2.2.2.2.1, (x.2.2.2.2.2.2.2.2.2.2.2.2.2.2.2.2.2.2.2.2.2.2.1, x.2.2.2.2.2.2.2.2.2.2.2.2.2.2.2.2.2.2.2.2.2.2.2.1))))))), (x.2.2.2.2.2.2.2.2.2.2.2.2.2.2.2.2.2.2.2.2.2.2.2.2.1, (x.2.2.2.2.2.2.2.2.2.2.2.2.2.2.2.2.2.2.2.2.2.2.2.2.2.1, (x.2.2.2.2.2.2.2.2.2.2.2.2.2.2.2.2.2.2.2.2.2.2.2.2.2.2.2.2.2.2.1, (x.2.2.2.2.2.2.2.2.2.2.2.2.2.2.2.2.2.2.2.2.2.2.2.2.2.2.2.2.2.2.2.1, (x.2.2.2.2.2.2.2.2.2.2.2.2.2.2.2.2.2.2.2.2.2.2.2.2.2.2.2.2.2.2.2.2, (x.2.2.2.2.2.2.2.2.2.2.2.2.2.2.2.2.2.2.2.2.2.2.2.2.2.2.1, x.2.2.2.2.2.2.2.2.2.2.2.2.2.2.2.2.2.2.2.2.2.2.2.2.2.2.2.1)))))))) (y7.1, ((y7.2.1, (y7.2.2.1, (y7.2.2.2.1, (y7.2.2.2.2.1, (y7.2.2.2.2.2.2.2.2.2.2.2.1, (y7.2.2.2.2.2.2.2.2.2.2.2.2.1, (y7.2.2.2.2.2.1, y7.2.2.2.2.2.2.1))))))), (y7.2.2.2.2.2.2.2.1, (y7.2.2.2.2.2.2.2.2.1, (y7.2.2.2.2.2.2.2.2.2.2.2.2.2.1, (y7.2.2.2.2.2.2.2.2.2.2.2.2.2.2.1, (y7.2.2.2.2.2.2.2.2.2.2.2.2.2.2.2, (y7.2.2.2.2.2.2.2.2.2.1, y7.2.2.2.2.2.2.2.2.2.2.1))))))))).bind fun y8 => (par_bif (par_ret _) (par_ret _))))

def laws_FnExactRecordText_d (a0 : dRecord) (k : Bool → Option Res) : Option Res :=
  laws_szRecord_k a0 (1048576 : Int) (fun y1 =>
    bif (decide (y1 < (0 : Int))) then
      k true
    else
      laws_toRecord_k a0 (fun y2 =>
        spec_RecordText_k (y2.1, ((y2.2.1, (y2.2.2.1, (y2.2.2.2.1, (y2.2.2.2.2.1, (y2.2.2.2.2.2.2.2.2.2.2.2.1, (y2.2.2.2.2.2.2.2.2.2.2.2.2.1, (y2.2.2.2.2.2.1, y2.2.2.2.2.2.2.1))))))), (y2.2.2.2.2.2.2.2.1, (y2.2.2.2.2.2.2.2.2.1, (y2.2.2.2.2.2.2.2.2.2.2.2.2.2.1, (y2.2.2.2.2.2.2.2.2.2.2.2.2.2.2.1, (y2.2.2.2.2.2.2.2.2.2.2.2.2.2.2.2, (y2.2.2.2.2.2.2.2.2.2.1, y2.2.2.2.2.2.2.2.2.2.2.1)))))))) (fun y3 =>
          laws_toRecord_k a0 (fun y4 =>
            impl_RecordText_k (y4.1, ((y4.2.1, (y4.2.2.1, (y4.2.2.2.1, (y4.2.2.2.2.1, (y4.2.2.2.2.2.2.2.2.2.2.2.1, (y4.2.2.2.2.2.2.2.2.2.2.2.2.1, (y4.2.2.2.2.2.1, y4.2.2.2.2.2.2.1))))))), (y4.2.2.2.2.2.2.2.1, (y4.2.2.2.2.2.2.2.2.1, (y4.2.2.2.2.2.2.2.2.2.2.2.2.2.1, (y4.2.2.2.2.2.2.2.2.2.2.2.2.2.2.1, (y4.2.2.2.2.2.2.2.2.2.2.2.2.2.2.2, (y4.2.2.2.2.2.2.2.2.2.1, y4.2.2.2.2.2.2.2.2.2.2.1)))))))) (fun y5 =>
              bif (!(strEq y5.1 y3.1)) then
                k false
              else
                bif (!(y5.2 == y3.2)) then
                  k false
                else
                  laws_FnExactRecordText_j5000010 (false, a0.1, a0.2.1.1, a0.2.1.2.1, a0.2.1.2.2.1, a0.2.1.2.2.2.1, a0.2.1.2.2.2.2.1, a0.2.1.2.2.2.2.2.1, a0.2.1.2.2.2.2.2.2.1, a0.2.1.2.2.2.2.2.2.2, a0.2.2.1, a0.2.2.2.1, a0.2.2.2.2.1, a0.2.2.2.2.2.1, a0.2.2.2.2.2.2.1, a0.2.2.2.2.2.2.2.1, a0.2.2.2.2.2.2.2.2, y4.1, y4.2.1, y4.2.2.1, y4.2.2.2.1, y4.2.2.2.2.1, y4.2.2.2.2.2.1, y4.2.2.2.2.2.2.1, y4.2.2.2.2.2.2.2.1, y4.2.2.2.2.2.2.2.2.1, y4.2.2.2.2.2.2.2.2.2.1, y4.2.2.2.2.2.2.2.2.2.2.1, y4.2.2.2.2.2.2.2.2.2.2.2.1, y4.2.2.2.2.2.2.2.2.2.2.2.2.1, y4.2.2.2.2.2.2.2.2.2.2.2.2.2.1, y4.2.2.2.2.2.2.2.2.2.2.2.2.2.2.1, y4.2.2.2.2.2.2.2.2.2.2.2.2.2.2.2) (fun z6 =>
                    k z6.1))))))

theorem laws_FnExactRecordText_h : ∃ g : dRecord → (Bool → Option Res) → Option Res, g = laws_FnExactRecordText_d := ⟨_, rfl⟩
def laws_FnExactRecordText_k : dRecord → (Bool → Option Res) → Option Res := Classical.choose laws_FnExactRecordText_h
theorem laws_FnExactRecordText_e : laws_FnExactRecordText_k = laws_FnExactRecordText_d := Classical.choose_spec laws_FnExactRecordText_h

theorem laws_FnExactRecordText_p (a0 : dRecord) : Par (laws_FnExactRecordText_k a0) := by
  rw [laws_FnExactRecordText_e]
  unfold laws_FnExactRecordText_d
  exact ((laws_szRecord_p a0 (1048576 : Int)).bind fun y1 => (par_bif (par_ret _) ((laws_toRecord_p a0).bind fun y2 => ((spec_RecordText_p (y2.1, ((y2.2.1, (y2.2.2.1, (y2.2.2.2.1, (y2.2.2.2.2.1, (y2.2.2.2.2.2.2.2.2.2.2.2.1, (y2.2.2.2.2.2.2.2.2.2.2.2.2.1, (y2.2.2.2.2.2.1, y2.2.2.2.2.2.2.1))))))), (y2.2.2.2.2.2.2.2.1, (y2.2.2.2.2.2.2.2.2.1, (y2.2.2.2.2.2.2.2.2.2.2.2.2.2.1, (y2.2.2.2.2.2.2.2.2.2.2.2.2.2.2.1, (y2.2.2.2.2.2.2.2.2.2.2.2.2.2.2.2, (y2.2.2.2.2.2.2.2.2.2.1, y2.2.2.2.2.2.2.2.2.2.2.1))))))))).bind fun y3 => ((laws_toRecord_p a0).bind fun y4 => ((impl_RecordText_p (y4.1, ((y4.2.1, (y4.2.2.1, (y4.2.2.2.1, (y4.2.2.2.2.1, (y4.2.2.2.2.2.2.2.2.2.2.2.1, (y4.2.2.2.2.2.2.2.2.2.2.2.2.1, (y4.2.2.2.2.2.1, y4.2.2.2.2.2.2.1))))))), (y4.2.2.2.2.2.2.2.1, (y4.2.2.2.2.2.2.2.2.1, (y4.2.2.2.2.2.2.2.2.2.2.2.2.2.1, (y4.2.2.2.2.2.2.2.2.2.2.2.2.2.2.1, (y4.2.2.2.2.2.2.2.2.2.2.2.2.2.2.2, (y4.2.2.2.2.2.2.2.2.2.1, y4.2.2.2.2.2.2.2.2.2.2.1))))))))).bind fun y5 => (par_bif (par_ret _) (par_bif (par_ret _) ((laws_FnExactRecordText_jp5000010 (false, a0.1, a0.2.1.1, a0.2.1.2.1, a0.2.1.2.2.1, a0.2.1.2.2.2.1, a0.2.1.2.2.2.2.1, a0.2.1.2.2.2.2.2.1, a0.2.1.2.2.2.2.2.2.1, a0.2.1.2.2.2.2.2.2.2, a0.2.2.1, a0.2.2.2.1, a0.2.2.2.2.1, a0.2.2.2.2.2.1, a0.2.2.2.2.2.2.1, a0.2.2.2.2.2.2.2.1, a0.2.2.2.2.2.2.2.2, y4.1, y4.2.1, y4.2.2.1, y4.2.2.2.1, y4.2.2.2.2.1, y4.2.2.2.2.2.1, y4.2.2.2.2.2.2.1, y4.2.2.2.2.2.2.2.1, y4.2.2.2.2.2.2.2.2.1, y4.2.2.2.2.2.2.2.2.2.1, y4.2.2.2.2.2.2.2.2.2.2.1, y4.2.2.2.2.2.2.2.2.2.2.2.1, y4.2.2.2.2.2.2.2.2.2.2.2.2.1, y4.2.2.2.2.2.2.2.2.2.2.2.2.2.1, y4.2.2.2.2.2.2.2.2.2.2.2.2.2.2.1, y4.2.2.2.2.2.2.2.2.2.2.2.2.2.2.2)).bind fun z6 => (par_ret _))))))))))

def laws_szRange_g (args : List AV) (st : St) (k : K1) : Option Res :=
  onPats [.agg [.str, .str], .int .i64] [] args st (fun p q => laws_szRange_k (p.1.1, p.1.2.1) p.2.1 (fun (y : Int) => k (.int .i64 y) []))
    (none)

theorem laws_szRange_q (a0 : ByteArray) (a1 : ByteArray) (a2 : Int) : Par (fun k : AV × St → Option Res => laws_szRange_g [.agg [.str a0, .str a1], .int .i64 a2] [] (fun v s => k (v, s))) :=
  (laws_szRange_p (a0, a1) a2).bind (H := fun (y : Int) (k : AV × St → Option Res) => (fun (y : Int) => k ((.int .i64 y : AV), ([] : St))) y) (fun y => par_ret _)

def laws_szRangeS_g (args : List AV) (st : St) (k : K1) : Option Res :=
  onPats [.lst tRange, .int .i64] [] args st (fun p q => laws_szRangeS_k p.1 p.2.1 (fun (y : Int) => k (.int .i64 y) []))
    (none)

theorem laws_szRangeS_q (a0 : (List dRange)) (a1 : Int) : Par (fun k : AV × St → Option Res => laws_szRangeS_g [.lst tRange a0, .int .i64 a1] [] (fun v s => k (v, s))) :=
  (laws_szRangeS_p a0 a1).bind (H := fun (y : Int) (k : AV × St → Option Res) => (fun (y : Int) => k ((.int .i64 y : AV), ([] : St))) y) (fun y => par_ret _)

def laws_szWrite_g (args : List AV) (st : St) (k : K1) : Option Res :=
  onPats [.agg [.str, .str, .bool], .int .i64] [] args st (fun p q => laws_szWrite_k (p.1.1, (p.1.2.1, p.1.2.2.1)) p.2.1 (fun (y : Int) => k (.int .i64 y) []))
    (none)

theorem laws_szWrite_q (a0 : ByteArray) (a1 : ByteArray) (a2 : Bool) (a3 : Int) : Par (fun k : AV × St → Option Res => laws_szWrite_g [.agg [.str a0, .str a1, .bool a2], .int .i64 a3] [] (fun v s => k (v, s))) :=
  (laws_szWrite_p (a0, (a1, a2)) a3).bind (H := fun (y : Int) (k : AV × St → Option Res) => (fun (y : Int) => k ((.int .i64 y : AV), ([] : St))) y) (fun y => par_ret _)

def laws_szWriteS_g (args : List AV) (st : St) (k : K1) : Option Res :=
  onPats [.lst tWrite, .int .i64] [] args st (fun p q => laws_szWriteS_k p.1 p.2.1 (fun (y : Int) => k (.int .i64 y) []))
    (none)

theorem laws_szWriteS_q (a0 : (List dWrite)) (a1 : Int) : Par (fun k : AV × St → Option Res => laws_szWriteS_g [.lst tWrite a0, .int .i64 a1] [] (fun v s => k (v, s))) :=
  (laws_szWriteS_p a0 a1).bind (H := fun (y : Int) (k : AV × St → Option Res) => (fun (y : Int) => k ((.int .i64 y : AV), ([] : St))) y) (fun y => par_ret _)

def laws_szTxn_g (args : List AV) (st : St) (k : K1) : Option Res :=
  onPats [.agg [.int .i64, .int .i64, .int .i64, .int .i64, .lst tRange, .lst tWrite, .bool, .str], .int .i64] [] args st (fun p q => laws_szTxn_k (p.1.1, (p.1.2.1, (p.1.2.2.1, (p.1.2.2.2.1, (p.1.2.2.2.2.1, (p.1.2.2.2.2.2.1, (p.1.2.2.2.2.2.2.1, p.1.2.2.2.2.2.2.2.1))))))) p.2.1 (fun (y : Int) => k (.int .i64 y) []))
    (none)

theorem laws_szTxn_q (a0 : Int) (a1 : Int) (a2 : Int) (a3 : Int) (a4 : (List dRange)) (a5 : (List dWrite)) (a6 : Bool) (a7 : ByteArray) (a8 : Int) : Par (fun k : AV × St → Option Res => laws_szTxn_g [.agg [.int .i64 a0, .int .i64 a1, .int .i64 a2, .int .i64 a3, .lst tRange a4, .lst tWrite a5, .bool a6, .str a7], .int .i64 a8] [] (fun v s => k (v, s))) :=
  (laws_szTxn_p (a0, (a1, (a2, (a3, (a4, (a5, (a6, a7))))))) a8).bind (H := fun (y : Int) (k : AV × St → Option Res) => (fun (y : Int) => k ((.int .i64 y : AV), ([] : St))) y) (fun y => par_ret _)

def laws_szVersion_g (args : List AV) (st : St) (k : K1) : Option Res :=
  onPats [.agg [.str, .str, .bool, .int .i64], .int .i64] [] args st (fun p q => laws_szVersion_k (p.1.1, (p.1.2.1, (p.1.2.2.1, p.1.2.2.2.1))) p.2.1 (fun (y : Int) => k (.int .i64 y) []))
    (none)

theorem laws_szVersion_q (a0 : ByteArray) (a1 : ByteArray) (a2 : Bool) (a3 : Int) (a4 : Int) : Par (fun k : AV × St → Option Res => laws_szVersion_g [.agg [.str a0, .str a1, .bool a2, .int .i64 a3], .int .i64 a4] [] (fun v s => k (v, s))) :=
  (laws_szVersion_p (a0, (a1, (a2, a3))) a4).bind (H := fun (y : Int) (k : AV × St → Option Res) => (fun (y : Int) => k ((.int .i64 y : AV), ([] : St))) y) (fun y => par_ret _)

def laws_szVersionS_g (args : List AV) (st : St) (k : K1) : Option Res :=
  onPats [.lst tVersion, .int .i64] [] args st (fun p q => laws_szVersionS_k p.1 p.2.1 (fun (y : Int) => k (.int .i64 y) []))
    (none)

theorem laws_szVersionS_q (a0 : (List dVersion)) (a1 : Int) : Par (fun k : AV × St → Option Res => laws_szVersionS_g [.lst tVersion a0, .int .i64 a1] [] (fun v s => k (v, s))) :=
  (laws_szVersionS_p a0 a1).bind (H := fun (y : Int) (k : AV × St → Option Res) => (fun (y : Int) => k ((.int .i64 y : AV), ([] : St))) y) (fun y => par_ret _)

def laws_szTxnS_g (args : List AV) (st : St) (k : K1) : Option Res :=
  onPats [.lst tTxn, .int .i64] [] args st (fun p q => laws_szTxnS_k p.1 p.2.1 (fun (y : Int) => k (.int .i64 y) []))
    (none)

theorem laws_szTxnS_q (a0 : (List dTxn)) (a1 : Int) : Par (fun k : AV × St → Option Res => laws_szTxnS_g [.lst tTxn a0, .int .i64 a1] [] (fun v s => k (v, s))) :=
  (laws_szTxnS_p a0 a1).bind (H := fun (y : Int) (k : AV × St → Option Res) => (fun (y : Int) => k ((.int .i64 y : AV), ([] : St))) y) (fun y => par_ret _)

def laws_szBase_g (args : List AV) (st : St) (k : K1) : Option Res :=
  onPats [.agg [.lst tVersion, .lst tTxn, .lst tTxn, .int .i64, .int .i64], .int .i64] [] args st (fun p q => laws_szBase_k (p.1.1, (p.1.2.1, (p.1.2.2.1, (p.1.2.2.2.1, p.1.2.2.2.2.1)))) p.2.1 (fun (y : Int) => k (.int .i64 y) []))
    (none)

theorem laws_szBase_q (a0 : (List dVersion)) (a1 : (List dTxn)) (a2 : (List dTxn)) (a3 : Int) (a4 : Int) (a5 : Int) : Par (fun k : AV × St → Option Res => laws_szBase_g [.agg [.lst tVersion a0, .lst tTxn a1, .lst tTxn a2, .int .i64 a3, .int .i64 a4], .int .i64 a5] [] (fun v s => k (v, s))) :=
  (laws_szBase_p (a0, (a1, (a2, (a3, a4)))) a5).bind (H := fun (y : Int) (k : AV × St → Option Res) => (fun (y : Int) => k ((.int .i64 y : AV), ([] : St))) y) (fun y => par_ret _)

def laws_szRecord_g (args : List AV) (st : St) (k : K1) : Option Res :=
  onPats [.agg [.int .i64, .int .i64, .int .i64, .int .i64, .int .i64, .lst tRange, .lst tWrite, .bool, .str, .str, .bool, .lst tVersion, .lst tTxn, .lst tTxn, .int .i64, .int .i64], .int .i64] [] args st (fun p q => laws_szRecord_k (p.1.1, ((p.1.2.1, (p.1.2.2.1, (p.1.2.2.2.1, (p.1.2.2.2.2.1, (p.1.2.2.2.2.2.1, (p.1.2.2.2.2.2.2.1, (p.1.2.2.2.2.2.2.2.1, p.1.2.2.2.2.2.2.2.2.1))))))), (p.1.2.2.2.2.2.2.2.2.2.1, (p.1.2.2.2.2.2.2.2.2.2.2.1, (p.1.2.2.2.2.2.2.2.2.2.2.2.1, (p.1.2.2.2.2.2.2.2.2.2.2.2.2.1, (p.1.2.2.2.2.2.2.2.2.2.2.2.2.2.1, (p.1.2.2.2.2.2.2.2.2.2.2.2.2.2.2.1, p.1.2.2.2.2.2.2.2.2.2.2.2.2.2.2.2.1)))))))) p.2.1 (fun (y : Int) => k (.int .i64 y) []))
    (none)

theorem laws_szRecord_q (a0 : Int) (a1 : Int) (a2 : Int) (a3 : Int) (a4 : Int) (a5 : (List dRange)) (a6 : (List dWrite)) (a7 : Bool) (a8 : ByteArray) (a9 : ByteArray) (a10 : Bool) (a11 : (List dVersion)) (a12 : (List dTxn)) (a13 : (List dTxn)) (a14 : Int) (a15 : Int) (a16 : Int) : Par (fun k : AV × St → Option Res => laws_szRecord_g [.agg [.int .i64 a0, .int .i64 a1, .int .i64 a2, .int .i64 a3, .int .i64 a4, .lst tRange a5, .lst tWrite a6, .bool a7, .str a8, .str a9, .bool a10, .lst tVersion a11, .lst tTxn a12, .lst tTxn a13, .int .i64 a14, .int .i64 a15], .int .i64 a16] [] (fun v s => k (v, s))) :=
  (laws_szRecord_p (a0, ((a1, (a2, (a3, (a4, (a5, (a6, (a7, a8))))))), (a9, (a10, (a11, (a12, (a13, (a14, a15)))))))) a16).bind (H := fun (y : Int) (k : AV × St → Option Res) => (fun (y : Int) => k ((.int .i64 y : AV), ([] : St))) y) (fun y => par_ret _)

def laws_toRange_g (args : List AV) (st : St) (k : K1) : Option Res :=
  onPats [.agg [.str, .str]] [] args st (fun p q => laws_toRange_k (p.1.1, p.1.2.1) (fun (y : (ByteArray × ByteArray)) => k (.agg [.str y.1, .str y.2]) []))
    (none)

theorem laws_toRange_q (a0 : ByteArray) (a1 : ByteArray) : Par (fun k : AV × St → Option Res => laws_toRange_g [.agg [.str a0, .str a1]] [] (fun v s => k (v, s))) :=
  (laws_toRange_p (a0, a1)).bind (H := fun (y : (ByteArray × ByteArray)) (k : AV × St → Option Res) => (fun (y : (ByteArray × ByteArray)) => k ((.agg [.str y.1, .str y.2] : AV), ([] : St))) y) (fun y => par_ret _)

def laws_toRangeS_g (args : List AV) (st : St) (k : K1) : Option Res :=
  onPats [.lst tRange] [] args st (fun p q => laws_toRangeS_k p.1 (fun (y : (List dRange)) => k (.own 0) [.arr tRange y]))
    (none)

theorem laws_toRangeS_q (a0 : (List dRange)) : Par (fun k : AV × St → Option Res => laws_toRangeS_g [.lst tRange a0] [] (fun v s => k (v, s))) :=
  (laws_toRangeS_p a0).bind (H := fun (y : (List dRange)) (k : AV × St → Option Res) => (fun (y : (List dRange)) => k ((.own 0 : AV), ([.arr tRange y] : St))) y) (fun y => par_ret _)

def laws_toWrite_g (args : List AV) (st : St) (k : K1) : Option Res :=
  onPats [.agg [.str, .str, .bool]] [] args st (fun p q => laws_toWrite_k (p.1.1, (p.1.2.1, p.1.2.2.1)) (fun (y : (ByteArray × ByteArray × Bool)) => k (.agg [.str y.1, .str y.2.1, .bool y.2.2]) []))
    (none)

theorem laws_toWrite_q (a0 : ByteArray) (a1 : ByteArray) (a2 : Bool) : Par (fun k : AV × St → Option Res => laws_toWrite_g [.agg [.str a0, .str a1, .bool a2]] [] (fun v s => k (v, s))) :=
  (laws_toWrite_p (a0, (a1, a2))).bind (H := fun (y : (ByteArray × ByteArray × Bool)) (k : AV × St → Option Res) => (fun (y : (ByteArray × ByteArray × Bool)) => k ((.agg [.str y.1, .str y.2.1, .bool y.2.2] : AV), ([] : St))) y) (fun y => par_ret _)

def laws_toWriteS_g (args : List AV) (st : St) (k : K1) : Option Res :=
  onPats [.lst tWrite] [] args st (fun p q => laws_toWriteS_k p.1 (fun (y : (List dWrite)) => k (.own 0) [.arr tWrite y]))
    (none)

theorem laws_toWriteS_q (a0 : (List dWrite)) : Par (fun k : AV × St → Option Res => laws_toWriteS_g [.lst tWrite a0] [] (fun v s => k (v, s))) :=
  (laws_toWriteS_p a0).bind (H := fun (y : (List dWrite)) (k : AV × St → Option Res) => (fun (y : (List dWrite)) => k ((.own 0 : AV), ([.arr tWrite y] : St))) y) (fun y => par_ret _)

def laws_toTxn_g (args : List AV) (st : St) (k : K1) : Option Res :=
  onPats [.agg [.int .i64, .int .i64, .int .i64, .int .i64, .lst tRange, .lst tWrite, .bool, .str]] [] args st (fun p q => laws_toTxn_k (p.1.1, (p.1.2.1, (p.1.2.2.1, (p.1.2.2.2.1, (p.1.2.2.2.2.1, (p.1.2.2.2.2.2.1, (p.1.2.2.2.2.2.2.1, p.1.2.2.2.2.2.2.2.1))))))) (fun (y : q45T) => k (.agg [.int .i64 y.1, .int .i64 y.2.1, .int .i64 y.2.2.1, .int .i64 y.2.2.2.1, .own 0, .own 1, .bool y.2.2.2.2.1, .str y.2.2.2.2.2.1]) [.arr tRange y.2.2.2.2.2.2.1, .arr tWrite y.2.2.2.2.2.2.2]))
    (none)

theorem laws_toTxn_q (a0 : Int) (a1 : Int) (a2 : Int) (a3 : Int) (a4 : (List dRange)) (a5 : (List dWrite)) (a6 : Bool) (a7 : ByteArray) : Par (fun k : AV × St → Option Res => laws_toTxn_g [.agg [.int .i64 a0, .int .i64 a1, .int .i64 a2, .int .i64 a3, .lst tRange a4, .lst tWrite a5, .bool a6, .str a7]] [] (fun v s => k (v, s))) :=
  (laws_toTxn_p (a0, (a1, (a2, (a3, (a4, (a5, (a6, a7)))))))).bind (H := fun (y : q45T) (k : AV × St → Option Res) => (fun (y : q45T) => k ((.agg [.int .i64 y.1, .int .i64 y.2.1, .int .i64 y.2.2.1, .int .i64 y.2.2.2.1, .own 0, .own 1, .bool y.2.2.2.2.1, .str y.2.2.2.2.2.1] : AV), ([.arr tRange y.2.2.2.2.2.2.1, .arr tWrite y.2.2.2.2.2.2.2] : St))) y) (fun y => par_ret _)

def laws_toVersion_g (args : List AV) (st : St) (k : K1) : Option Res :=
  onPats [.agg [.str, .str, .bool, .int .i64]] [] args st (fun p q => laws_toVersion_k (p.1.1, (p.1.2.1, (p.1.2.2.1, p.1.2.2.2.1))) (fun (y : q39T) => k (.agg [.str y.1, .str y.2.1, .bool y.2.2.1, .int .i64 y.2.2.2]) []))
    (none)

theorem laws_toVersion_q (a0 : ByteArray) (a1 : ByteArray) (a2 : Bool) (a3 : Int) : Par (fun k : AV × St → Option Res => laws_toVersion_g [.agg [.str a0, .str a1, .bool a2, .int .i64 a3]] [] (fun v s => k (v, s))) :=
  (laws_toVersion_p (a0, (a1, (a2, a3)))).bind (H := fun (y : q39T) (k : AV × St → Option Res) => (fun (y : q39T) => k ((.agg [.str y.1, .str y.2.1, .bool y.2.2.1, .int .i64 y.2.2.2] : AV), ([] : St))) y) (fun y => par_ret _)

def laws_toVersionS_g (args : List AV) (st : St) (k : K1) : Option Res :=
  onPats [.lst tVersion] [] args st (fun p q => laws_toVersionS_k p.1 (fun (y : (List dVersion)) => k (.own 0) [.arr tVersion y]))
    (none)

theorem laws_toVersionS_q (a0 : (List dVersion)) : Par (fun k : AV × St → Option Res => laws_toVersionS_g [.lst tVersion a0] [] (fun v s => k (v, s))) :=
  (laws_toVersionS_p a0).bind (H := fun (y : (List dVersion)) (k : AV × St → Option Res) => (fun (y : (List dVersion)) => k ((.own 0 : AV), ([.arr tVersion y] : St))) y) (fun y => par_ret _)

def laws_toTxnS_g (args : List AV) (st : St) (k : K1) : Option Res :=
  onPats [.lst tTxn] [] args st (fun p q => laws_toTxnS_k p.1 (fun (y : (List dTxn)) => k (.own 0) [.arr tTxn y]))
    (none)

theorem laws_toTxnS_q (a0 : (List dTxn)) : Par (fun k : AV × St → Option Res => laws_toTxnS_g [.lst tTxn a0] [] (fun v s => k (v, s))) :=
  (laws_toTxnS_p a0).bind (H := fun (y : (List dTxn)) (k : AV × St → Option Res) => (fun (y : (List dTxn)) => k ((.own 0 : AV), ([.arr tTxn y] : St))) y) (fun y => par_ret _)

def laws_toBase_g (args : List AV) (st : St) (k : K1) : Option Res :=
  onPats [.agg [.lst tVersion, .lst tTxn, .lst tTxn, .int .i64, .int .i64]] [] args st (fun p q => laws_toBase_k (p.1.1, (p.1.2.1, (p.1.2.2.1, (p.1.2.2.2.1, p.1.2.2.2.2.1)))) (fun (y : q44T) => k (.agg [.own 0, .own 1, .own 2, .int .i64 y.1, .int .i64 y.2.1]) [.arr tVersion y.2.2.1, .arr tTxn y.2.2.2.1, .arr tTxn y.2.2.2.2]))
    (none)

theorem laws_toBase_q (a0 : (List dVersion)) (a1 : (List dTxn)) (a2 : (List dTxn)) (a3 : Int) (a4 : Int) : Par (fun k : AV × St → Option Res => laws_toBase_g [.agg [.lst tVersion a0, .lst tTxn a1, .lst tTxn a2, .int .i64 a3, .int .i64 a4]] [] (fun v s => k (v, s))) :=
  (laws_toBase_p (a0, (a1, (a2, (a3, a4))))).bind (H := fun (y : q44T) (k : AV × St → Option Res) => (fun (y : q44T) => k ((.agg [.own 0, .own 1, .own 2, .int .i64 y.1, .int .i64 y.2.1] : AV), ([.arr tVersion y.2.2.1, .arr tTxn y.2.2.2.1, .arr tTxn y.2.2.2.2] : St))) y) (fun y => par_ret _)

def laws_toRecord_g (args : List AV) (st : St) (k : K1) : Option Res :=
  onPats [.agg [.int .i64, .int .i64, .int .i64, .int .i64, .int .i64, .lst tRange, .lst tWrite, .bool, .str, .str, .bool, .lst tVersion, .lst tTxn, .lst tTxn, .int .i64, .int .i64]] [] args st (fun p q => laws_toRecord_k (p.1.1, ((p.1.2.1, (p.1.2.2.1, (p.1.2.2.2.1, (p.1.2.2.2.2.1, (p.1.2.2.2.2.2.1, (p.1.2.2.2.2.2.2.1, (p.1.2.2.2.2.2.2.2.1, p.1.2.2.2.2.2.2.2.2.1))))))), (p.1.2.2.2.2.2.2.2.2.2.1, (p.1.2.2.2.2.2.2.2.2.2.2.1, (p.1.2.2.2.2.2.2.2.2.2.2.2.1, (p.1.2.2.2.2.2.2.2.2.2.2.2.2.1, (p.1.2.2.2.2.2.2.2.2.2.2.2.2.2.1, (p.1.2.2.2.2.2.2.2.2.2.2.2.2.2.2.1, p.1.2.2.2.2.2.2.2.2.2.2.2.2.2.2.2.1)))))))) (fun (y : q47T) => k (.agg [.int .i64 y.1, .int .i64 y.2.1, .int .i64 y.2.2.1, .int .i64 y.2.2.2.1, .int .i64 y.2.2.2.2.1, .own 0, .own 1, .bool y.2.2.2.2.2.1, .str y.2.2.2.2.2.2.1, .str y.2.2.2.2.2.2.2.1, .bool y.2.2.2.2.2.2.2.2.1, .own 2, .own 3, .own 4, .int .i64 y.2.2.2.2.2.2.2.2.2.1, .int .i64 y.2.2.2.2.2.2.2.2.2.2.1]) [.arr tRange y.2.2.2.2.2.2.2.2.2.2.2.1, .arr tWrite y.2.2.2.2.2.2.2.2.2.2.2.2.1, .arr tVersion y.2.2.2.2.2.2.2.2.2.2.2.2.2.1, .arr tTxn y.2.2.2.2.2.2.2.2.2.2.2.2.2.2.1, .arr tTxn y.2.2.2.2.2.2.2.2.2.2.2.2.2.2.2]))
    (none)

theorem laws_toRecord_q (a0 : Int) (a1 : Int) (a2 : Int) (a3 : Int) (a4 : Int) (a5 : (List dRange)) (a6 : (List dWrite)) (a7 : Bool) (a8 : ByteArray) (a9 : ByteArray) (a10 : Bool) (a11 : (List dVersion)) (a12 : (List dTxn)) (a13 : (List dTxn)) (a14 : Int) (a15 : Int) : Par (fun k : AV × St → Option Res => laws_toRecord_g [.agg [.int .i64 a0, .int .i64 a1, .int .i64 a2, .int .i64 a3, .int .i64 a4, .lst tRange a5, .lst tWrite a6, .bool a7, .str a8, .str a9, .bool a10, .lst tVersion a11, .lst tTxn a12, .lst tTxn a13, .int .i64 a14, .int .i64 a15]] [] (fun v s => k (v, s))) :=
  (laws_toRecord_p (a0, ((a1, (a2, (a3, (a4, (a5, (a6, (a7, a8))))))), (a9, (a10, (a11, (a12, (a13, (a14, a15))))))))).bind (H := fun (y : q47T) (k : AV × St → Option Res) => (fun (y : q47T) => k ((.agg [.int .i64 y.1, .int .i64 y.2.1, .int .i64 y.2.2.1, .int .i64 y.2.2.2.1, .int .i64 y.2.2.2.2.1, .own 0, .own 1, .bool y.2.2.2.2.2.1, .str y.2.2.2.2.2.2.1, .str y.2.2.2.2.2.2.2.1, .bool y.2.2.2.2.2.2.2.2.1, .own 2, .own 3, .own 4, .int .i64 y.2.2.2.2.2.2.2.2.2.1, .int .i64 y.2.2.2.2.2.2.2.2.2.2.1] : AV), ([.arr tRange y.2.2.2.2.2.2.2.2.2.2.2.1, .arr tWrite y.2.2.2.2.2.2.2.2.2.2.2.2.1, .arr tVersion y.2.2.2.2.2.2.2.2.2.2.2.2.2.1, .arr tTxn y.2.2.2.2.2.2.2.2.2.2.2.2.2.2.1, .arr tTxn y.2.2.2.2.2.2.2.2.2.2.2.2.2.2.2] : St))) y) (fun y => par_ret _)

def spec_l01In_g (args : List AV) (st : St) (k : K1) : Option Res :=
  onPats [.int .i64, .int .i64, .int .i64] [] args st (fun p q => spec_l01In_k p.1 p.2.1 p.2.2.1 (fun (y : Bool) => k (.bool y) []))
    (none)

theorem spec_l01In_q (a0 : Int) (a1 : Int) (a2 : Int) : Par (fun k : AV × St → Option Res => spec_l01In_g [.int .i64 a0, .int .i64 a1, .int .i64 a2] [] (fun v s => k (v, s))) :=
  (spec_l01In_p a0 a1 a2).bind (H := fun (y : Bool) (k : AV × St → Option Res) => (fun (y : Bool) => k ((.bool y : AV), ([] : St))) y) (fun y => par_ret _)

def spec_KeyOk_g (args : List AV) (st : St) (k : K1) : Option Res :=
  onPats [.str] [] args st (fun p q => spec_KeyOk_k p.1 (fun (y : Bool) => k (.bool y) []))
    (none)

theorem spec_KeyOk_q (a0 : ByteArray) : Par (fun k : AV × St → Option Res => spec_KeyOk_g [.str a0] [] (fun v s => k (v, s))) :=
  (spec_KeyOk_p a0).bind (H := fun (y : Bool) (k : AV × St → Option Res) => (fun (y : Bool) => k ((.bool y : AV), ([] : St))) y) (fun y => par_ret _)

def spec_WriteOk_g (args : List AV) (st : St) (k : K1) : Option Res :=
  onPats [.agg [.str, .str, .bool]] [] args st (fun p q => spec_WriteOk_k (p.1.1, (p.1.2.1, p.1.2.2.1)) (fun (y : Bool) => k (.bool y) []))
    (none)

theorem spec_WriteOk_q (a0 : ByteArray) (a1 : ByteArray) (a2 : Bool) : Par (fun k : AV × St → Option Res => spec_WriteOk_g [.agg [.str a0, .str a1, .bool a2]] [] (fun v s => k (v, s))) :=
  (spec_WriteOk_p (a0, (a1, a2))).bind (H := fun (y : Bool) (k : AV × St → Option Res) => (fun (y : Bool) => k ((.bool y : AV), ([] : St))) y) (fun y => par_ret _)

def spec_WritesOk_g (args : List AV) (st : St) (k : K1) : Option Res :=
  onPats [.lst tWrite] [] args st (fun p q => spec_WritesOk_k p.1 (fun (y : Bool) => k (.bool y) []))
    (none)

theorem spec_WritesOk_q (a0 : (List dWrite)) : Par (fun k : AV × St → Option Res => spec_WritesOk_g [.lst tWrite a0] [] (fun v s => k (v, s))) :=
  (spec_WritesOk_p a0).bind (H := fun (y : Bool) (k : AV × St → Option Res) => (fun (y : Bool) => k ((.bool y : AV), ([] : St))) y) (fun y => par_ret _)

def spec_RangeOk_g (args : List AV) (st : St) (k : K1) : Option Res :=
  onPats [.agg [.str, .str]] [] args st (fun p q => spec_RangeOk_k (p.1.1, p.1.2.1) (fun (y : Bool) => k (.bool y) []))
    (none)

theorem spec_RangeOk_q (a0 : ByteArray) (a1 : ByteArray) : Par (fun k : AV × St → Option Res => spec_RangeOk_g [.agg [.str a0, .str a1]] [] (fun v s => k (v, s))) :=
  (spec_RangeOk_p (a0, a1)).bind (H := fun (y : Bool) (k : AV × St → Option Res) => (fun (y : Bool) => k ((.bool y : AV), ([] : St))) y) (fun y => par_ret _)

def spec_TxnOk_g (args : List AV) (st : St) (k : K1) : Option Res :=
  onPats [.agg [.int .i64, .int .i64, .int .i64, .int .i64, .lst tRange, .lst tWrite, .bool, .str]] [] args st (fun p q => spec_TxnOk_k (p.1.1, (p.1.2.1, (p.1.2.2.1, (p.1.2.2.2.1, (p.1.2.2.2.2.1, (p.1.2.2.2.2.2.1, (p.1.2.2.2.2.2.2.1, p.1.2.2.2.2.2.2.2.1))))))) (fun (y : Bool) => k (.bool y) []))
    (none)

theorem spec_TxnOk_q (a0 : Int) (a1 : Int) (a2 : Int) (a3 : Int) (a4 : (List dRange)) (a5 : (List dWrite)) (a6 : Bool) (a7 : ByteArray) : Par (fun k : AV × St → Option Res => spec_TxnOk_g [.agg [.int .i64 a0, .int .i64 a1, .int .i64 a2, .int .i64 a3, .lst tRange a4, .lst tWrite a5, .bool a6, .str a7]] [] (fun v s => k (v, s))) :=
  (spec_TxnOk_p (a0, (a1, (a2, (a3, (a4, (a5, (a6, a7)))))))).bind (H := fun (y : Bool) (k : AV × St → Option Res) => (fun (y : Bool) => k ((.bool y : AV), ([] : St))) y) (fun y => par_ret _)

def spec_l10NoTxn_g (args : List AV) (st : St) (k : K1) : Option Res :=
  onPats [.agg [.int .i64, .int .i64, .int .i64, .int .i64, .lst tRange, .lst tWrite, .bool, .str]] [] args st (fun p q => spec_l10NoTxn_k (p.1.1, (p.1.2.1, (p.1.2.2.1, (p.1.2.2.2.1, (p.1.2.2.2.2.1, (p.1.2.2.2.2.2.1, (p.1.2.2.2.2.2.2.1, p.1.2.2.2.2.2.2.2.1))))))) (fun (y : Bool) => k (.bool y) []))
    (none)

theorem spec_l10NoTxn_q (a0 : Int) (a1 : Int) (a2 : Int) (a3 : Int) (a4 : (List dRange)) (a5 : (List dWrite)) (a6 : Bool) (a7 : ByteArray) : Par (fun k : AV × St → Option Res => spec_l10NoTxn_g [.agg [.int .i64 a0, .int .i64 a1, .int .i64 a2, .int .i64 a3, .lst tRange a4, .lst tWrite a5, .bool a6, .str a7]] [] (fun v s => k (v, s))) :=
  (spec_l10NoTxn_p (a0, (a1, (a2, (a3, (a4, (a5, (a6, a7)))))))).bind (H := fun (y : Bool) (k : AV × St → Option Res) => (fun (y : Bool) => k ((.bool y : AV), ([] : St))) y) (fun y => par_ret _)

def spec_VersionsOk_g (args : List AV) (st : St) (k : K1) : Option Res :=
  onPats [.lst tVersion] [] args st (fun p q => spec_VersionsOk_k p.1 (fun (y : Bool) => k (.bool y) []))
    (none)

theorem spec_VersionsOk_q (a0 : (List dVersion)) : Par (fun k : AV × St → Option Res => spec_VersionsOk_g [.lst tVersion a0] [] (fun v s => k (v, s))) :=
  (spec_VersionsOk_p a0).bind (H := fun (y : Bool) (k : AV × St → Option Res) => (fun (y : Bool) => k ((.bool y : AV), ([] : St))) y) (fun y => par_ret _)

def spec_BaseOk_g (args : List AV) (st : St) (k : K1) : Option Res :=
  onPats [.agg [.lst tVersion, .lst tTxn, .lst tTxn, .int .i64, .int .i64]] [] args st (fun p q => spec_BaseOk_k (p.1.1, (p.1.2.1, (p.1.2.2.1, (p.1.2.2.2.1, p.1.2.2.2.2.1)))) (fun (y : Bool) => k (.bool y) []))
    (none)

theorem spec_BaseOk_q (a0 : (List dVersion)) (a1 : (List dTxn)) (a2 : (List dTxn)) (a3 : Int) (a4 : Int) : Par (fun k : AV × St → Option Res => spec_BaseOk_g [.agg [.lst tVersion a0, .lst tTxn a1, .lst tTxn a2, .int .i64 a3, .int .i64 a4]] [] (fun v s => k (v, s))) :=
  (spec_BaseOk_p (a0, (a1, (a2, (a3, a4))))).bind (H := fun (y : Bool) (k : AV × St → Option Res) => (fun (y : Bool) => k ((.bool y : AV), ([] : St))) y) (fun y => par_ret _)

def spec_l10NoBase_g (args : List AV) (st : St) (k : K1) : Option Res :=
  onPats [.agg [.lst tVersion, .lst tTxn, .lst tTxn, .int .i64, .int .i64]] [] args st (fun p q => spec_l10NoBase_k (p.1.1, (p.1.2.1, (p.1.2.2.1, (p.1.2.2.2.1, p.1.2.2.2.2.1)))) (fun (y : Bool) => k (.bool y) []))
    (none)

theorem spec_l10NoBase_q (a0 : (List dVersion)) (a1 : (List dTxn)) (a2 : (List dTxn)) (a3 : Int) (a4 : Int) : Par (fun k : AV × St → Option Res => spec_l10NoBase_g [.agg [.lst tVersion a0, .lst tTxn a1, .lst tTxn a2, .int .i64 a3, .int .i64 a4]] [] (fun v s => k (v, s))) :=
  (spec_l10NoBase_p (a0, (a1, (a2, (a3, a4))))).bind (H := fun (y : Bool) (k : AV × St → Option Res) => (fun (y : Bool) => k ((.bool y : AV), ([] : St))) y) (fun y => par_ret _)

def spec_RecordOk_g (args : List AV) (st : St) (k : K1) : Option Res :=
  onPats [.agg [.int .i64, .int .i64, .int .i64, .int .i64, .int .i64, .lst tRange, .lst tWrite, .bool, .str, .str, .bool, .lst tVersion, .lst tTxn, .lst tTxn, .int .i64, .int .i64]] [] args st (fun p q => spec_RecordOk_k (p.1.1, ((p.1.2.1, (p.1.2.2.1, (p.1.2.2.2.1, (p.1.2.2.2.2.1, (p.1.2.2.2.2.2.1, (p.1.2.2.2.2.2.2.1, (p.1.2.2.2.2.2.2.2.1, p.1.2.2.2.2.2.2.2.2.1))))))), (p.1.2.2.2.2.2.2.2.2.2.1, (p.1.2.2.2.2.2.2.2.2.2.2.1, (p.1.2.2.2.2.2.2.2.2.2.2.2.1, (p.1.2.2.2.2.2.2.2.2.2.2.2.2.1, (p.1.2.2.2.2.2.2.2.2.2.2.2.2.2.1, (p.1.2.2.2.2.2.2.2.2.2.2.2.2.2.2.1, p.1.2.2.2.2.2.2.2.2.2.2.2.2.2.2.2.1)))))))) (fun (y : Bool) => k (.bool y) []))
    (none)

theorem spec_RecordOk_q (a0 : Int) (a1 : Int) (a2 : Int) (a3 : Int) (a4 : Int) (a5 : (List dRange)) (a6 : (List dWrite)) (a7 : Bool) (a8 : ByteArray) (a9 : ByteArray) (a10 : Bool) (a11 : (List dVersion)) (a12 : (List dTxn)) (a13 : (List dTxn)) (a14 : Int) (a15 : Int) : Par (fun k : AV × St → Option Res => spec_RecordOk_g [.agg [.int .i64 a0, .int .i64 a1, .int .i64 a2, .int .i64 a3, .int .i64 a4, .lst tRange a5, .lst tWrite a6, .bool a7, .str a8, .str a9, .bool a10, .lst tVersion a11, .lst tTxn a12, .lst tTxn a13, .int .i64 a14, .int .i64 a15]] [] (fun v s => k (v, s))) :=
  (spec_RecordOk_p (a0, ((a1, (a2, (a3, (a4, (a5, (a6, (a7, a8))))))), (a9, (a10, (a11, (a12, (a13, (a14, a15))))))))).bind (H := fun (y : Bool) (k : AV × St → Option Res) => (fun (y : Bool) => k ((.bool y : AV), ([] : St))) y) (fun y => par_ret _)

def spec_l01Var_g (args : List AV) (st : St) (k : K1) : Option Res :=
  onPats [.int .i64] [] args st (fun p q => spec_l01Var_k p.1 (fun (y : ByteArray) => k (.str y) []))
    (none)

theorem spec_l01Var_q (a0 : Int) : Par (fun k : AV × St → Option Res => spec_l01Var_g [.int .i64 a0] [] (fun v s => k (v, s))) :=
  (spec_l01Var_p a0).bind (H := fun (y : ByteArray) (k : AV × St → Option Res) => (fun (y : ByteArray) => k ((.str y : AV), ([] : St))) y) (fun y => par_ret _)

def spec_l07Short_g (args : List AV) (st : St) (k : K1) : Option Res :=
  onPats [.str] [] args st (fun p q => spec_l07Short_k p.1 (fun (y : ByteArray) => k (.str y) []))
    (none)

theorem spec_l07Short_q (a0 : ByteArray) : Par (fun k : AV × St → Option Res => spec_l07Short_g [.str a0] [] (fun v s => k (v, s))) :=
  (spec_l07Short_p a0).bind (H := fun (y : ByteArray) (k : AV × St → Option Res) => (fun (y : ByteArray) => k ((.str y : AV), ([] : St))) y) (fun y => par_ret _)

def spec_l07Bit_g (args : List AV) (st : St) (k : K1) : Option Res :=
  onPats [.bool] [] args st (fun p q => spec_l07Bit_k p.1 (fun (y : ByteArray) => k (.str y) []))
    (none)

theorem spec_l07Bit_q (a0 : Bool) : Par (fun k : AV × St → Option Res => spec_l07Bit_g [.bool a0] [] (fun v s => k (v, s))) :=
  (spec_l07Bit_p a0).bind (H := fun (y : ByteArray) (k : AV × St → Option Res) => (fun (y : ByteArray) => k ((.str y : AV), ([] : St))) y) (fun y => par_ret _)

def spec_SumMore_g (args : List AV) (st : St) (k : K1) : Option Res :=
  onPats [.int .u32, .str] [] args st (fun p q => spec_SumMore_k p.1 p.2.1 (fun (y : Int) => k (.int .u32 y) []))
    (none)

theorem spec_SumMore_q (a0 : Int) (a1 : ByteArray) : Par (fun k : AV × St → Option Res => spec_SumMore_g [.int .u32 a0, .str a1] [] (fun v s => k (v, s))) :=
  (spec_SumMore_p a0 a1).bind (H := fun (y : Int) (k : AV × St → Option Res) => (fun (y : Int) => k ((.int .u32 y : AV), ([] : St))) y) (fun y => par_ret _)

def spec_SumOf_g (args : List AV) (st : St) (k : K1) : Option Res :=
  onPats [.str] [] args st (fun p q => spec_SumOf_k p.1 (fun (y : Int) => k (.int .u32 y) []))
    (none)

theorem spec_SumOf_q (a0 : ByteArray) : Par (fun k : AV × St → Option Res => spec_SumOf_g [.str a0] [] (fun v s => k (v, s))) :=
  (spec_SumOf_p a0).bind (H := fun (y : Int) (k : AV × St → Option Res) => (fun (y : Int) => k ((.int .u32 y : AV), ([] : St))) y) (fun y => par_ret _)

def spec_l02Four_g (args : List AV) (st : St) (k : K1) : Option Res :=
  onPats [.int .u32] [] args st (fun p q => spec_l02Four_k p.1 (fun (y : ByteArray) => k (.str y) []))
    (none)

theorem spec_l02Four_q (a0 : Int) : Par (fun k : AV × St → Option Res => spec_l02Four_g [.int .u32 a0] [] (fun v s => k (v, s))) :=
  (spec_l02Four_p a0).bind (H := fun (y : ByteArray) (k : AV × St → Option Res) => (fun (y : ByteArray) => k ((.str y : AV), ([] : St))) y) (fun y => par_ret _)

def spec_Sealed_g (args : List AV) (st : St) (k : K1) : Option Res :=
  onPats [.str] [] args st (fun p q => spec_Sealed_k p.1 (fun (y : (ByteArray × Bool)) => k (.tup [.str y.1, .bool y.2]) []))
    (none)

theorem spec_Sealed_q (a0 : ByteArray) : Par (fun k : AV × St → Option Res => spec_Sealed_g [.str a0] [] (fun v s => k (v, s))) :=
  (spec_Sealed_p a0).bind (H := fun (y : (ByteArray × Bool)) (k : AV × St → Option Res) => (fun (y : (ByteArray × Bool)) => k ((.tup [.str y.1, .bool y.2] : AV), ([] : St))) y) (fun y => par_ret _)

def spec_TxnText_g (args : List AV) (st : St) (k : K1) : Option Res :=
  onPats [.agg [.int .i64, .int .i64, .int .i64, .int .i64, .lst tRange, .lst tWrite, .bool, .str]] [] args st (fun p q => spec_TxnText_k (p.1.1, (p.1.2.1, (p.1.2.2.1, (p.1.2.2.2.1, (p.1.2.2.2.2.1, (p.1.2.2.2.2.2.1, (p.1.2.2.2.2.2.2.1, p.1.2.2.2.2.2.2.2.1))))))) (fun (y : (ByteArray × Bool)) => k (.tup [.str y.1, .bool y.2]) []))
    (none)

theorem spec_TxnText_q (a0 : Int) (a1 : Int) (a2 : Int) (a3 : Int) (a4 : (List dRange)) (a5 : (List dWrite)) (a6 : Bool) (a7 : ByteArray) : Par (fun k : AV × St → Option Res => spec_TxnText_g [.agg [.int .i64 a0, .int .i64 a1, .int .i64 a2, .int .i64 a3, .lst tRange a4, .lst tWrite a5, .bool a6, .str a7]] [] (fun v s => k (v, s))) :=
  (spec_TxnText_p (a0, (a1, (a2, (a3, (a4, (a5, (a6, a7)))))))).bind (H := fun (y : (ByteArray × Bool)) (k : AV × St → Option Res) => (fun (y : (ByteArray × Bool)) => k ((.tup [.str y.1, .bool y.2] : AV), ([] : St))) y) (fun y => par_ret _)

def spec_l10Txns_g (args : List AV) (st : St) (k : K1) : Option Res :=
  onPats [.lst tTxn] [] args st (fun p q => spec_l10Txns_k p.1 (fun (y : ByteArray) => k (.str y) []))
    (none)

theorem spec_l10Txns_q (a0 : (List dTxn)) : Par (fun k : AV × St → Option Res => spec_l10Txns_g [.lst tTxn a0] [] (fun v s => k (v, s))) :=
  (spec_l10Txns_p a0).bind (H := fun (y : ByteArray) (k : AV × St → Option Res) => (fun (y : ByteArray) => k ((.str y : AV), ([] : St))) y) (fun y => par_ret _)

def spec_BaseText_g (args : List AV) (st : St) (k : K1) : Option Res :=
  onPats [.agg [.lst tVersion, .lst tTxn, .lst tTxn, .int .i64, .int .i64]] [] args st (fun p q => spec_BaseText_k (p.1.1, (p.1.2.1, (p.1.2.2.1, (p.1.2.2.2.1, p.1.2.2.2.2.1)))) (fun (y : (ByteArray × Bool)) => k (.tup [.str y.1, .bool y.2]) []))
    (none)

theorem spec_BaseText_q (a0 : (List dVersion)) (a1 : (List dTxn)) (a2 : (List dTxn)) (a3 : Int) (a4 : Int) : Par (fun k : AV × St → Option Res => spec_BaseText_g [.agg [.lst tVersion a0, .lst tTxn a1, .lst tTxn a2, .int .i64 a3, .int .i64 a4]] [] (fun v s => k (v, s))) :=
  (spec_BaseText_p (a0, (a1, (a2, (a3, a4))))).bind (H := fun (y : (ByteArray × Bool)) (k : AV × St → Option Res) => (fun (y : (ByteArray × Bool)) => k ((.tup [.str y.1, .bool y.2] : AV), ([] : St))) y) (fun y => par_ret _)

def spec_RecordText_g (args : List AV) (st : St) (k : K1) : Option Res :=
  onPats [.agg [.int .i64, .int .i64, .int .i64, .int .i64, .int .i64, .lst tRange, .lst tWrite, .bool, .str, .str, .bool, .lst tVersion, .lst tTxn, .lst tTxn, .int .i64, .int .i64]] [] args st (fun p q => spec_RecordText_k (p.1.1, ((p.1.2.1, (p.1.2.2.1, (p.1.2.2.2.1, (p.1.2.2.2.2.1, (p.1.2.2.2.2.2.1, (p.1.2.2.2.2.2.2.1, (p.1.2.2.2.2.2.2.2.1, p.1.2.2.2.2.2.2.2.2.1))))))), (p.1.2.2.2.2.2.2.2.2.2.1, (p.1.2.2.2.2.2.2.2.2.2.2.1, (p.1.2.2.2.2.2.2.2.2.2.2.2.1, (p.1.2.2.2.2.2.2.2.2.2.2.2.2.1, (p.1.2.2.2.2.2.2.2.2.2.2.2.2.2.1, (p.1.2.2.2.2.2.2.2.2.2.2.2.2.2.2.1, p.1.2.2.2.2.2.2.2.2.2.2.2.2.2.2.2.1)))))))) (fun (y : (ByteArray × Bool)) => k (.tup [.str y.1, .bool y.2]) []))
    (none)

theorem spec_RecordText_q (a0 : Int) (a1 : Int) (a2 : Int) (a3 : Int) (a4 : Int) (a5 : (List dRange)) (a6 : (List dWrite)) (a7 : Bool) (a8 : ByteArray) (a9 : ByteArray) (a10 : Bool) (a11 : (List dVersion)) (a12 : (List dTxn)) (a13 : (List dTxn)) (a14 : Int) (a15 : Int) : Par (fun k : AV × St → Option Res => spec_RecordText_g [.agg [.int .i64 a0, .int .i64 a1, .int .i64 a2, .int .i64 a3, .int .i64 a4, .lst tRange a5, .lst tWrite a6, .bool a7, .str a8, .str a9, .bool a10, .lst tVersion a11, .lst tTxn a12, .lst tTxn a13, .int .i64 a14, .int .i64 a15]] [] (fun v s => k (v, s))) :=
  (spec_RecordText_p (a0, ((a1, (a2, (a3, (a4, (a5, (a6, (a7, a8))))))), (a9, (a10, (a11, (a12, (a13, (a14, a15))))))))).bind (H := fun (y : (ByteArray × Bool)) (k : AV × St → Option Res) => (fun (y : (ByteArray × Bool)) => k ((.tup [.str y.1, .bool y.2] : AV), ([] : St))) y) (fun y => par_ret _)

def impl_emptyTxn_g (args : List AV) (st : St) (k : K1) : Option Res :=
  onPats [.agg [.int .i64, .int .i64, .int .i64, .int .i64, .lst tRange, .lst tWrite, .bool, .str]] [] args st (fun p q => impl_emptyTxn_k (p.1.1, (p.1.2.1, (p.1.2.2.1, (p.1.2.2.2.1, (p.1.2.2.2.2.1, (p.1.2.2.2.2.2.1, (p.1.2.2.2.2.2.2.1, p.1.2.2.2.2.2.2.2.1))))))) (fun (y : Bool) => k (.bool y) []))
    (none)

theorem impl_emptyTxn_q (a0 : Int) (a1 : Int) (a2 : Int) (a3 : Int) (a4 : (List dRange)) (a5 : (List dWrite)) (a6 : Bool) (a7 : ByteArray) : Par (fun k : AV × St → Option Res => impl_emptyTxn_g [.agg [.int .i64 a0, .int .i64 a1, .int .i64 a2, .int .i64 a3, .lst tRange a4, .lst tWrite a5, .bool a6, .str a7]] [] (fun v s => k (v, s))) :=
  (impl_emptyTxn_p (a0, (a1, (a2, (a3, (a4, (a5, (a6, a7)))))))).bind (H := fun (y : Bool) (k : AV × St → Option Res) => (fun (y : Bool) => k ((.bool y : AV), ([] : St))) y) (fun y => par_ret _)

def impl_emptyBase_g (args : List AV) (st : St) (k : K1) : Option Res :=
  onPats [.agg [.lst tVersion, .lst tTxn, .lst tTxn, .int .i64, .int .i64]] [] args st (fun p q => impl_emptyBase_k (p.1.1, (p.1.2.1, (p.1.2.2.1, (p.1.2.2.2.1, p.1.2.2.2.2.1)))) (fun (y : Bool) => k (.bool y) []))
    (none)

theorem impl_emptyBase_q (a0 : (List dVersion)) (a1 : (List dTxn)) (a2 : (List dTxn)) (a3 : Int) (a4 : Int) : Par (fun k : AV × St → Option Res => impl_emptyBase_g [.agg [.lst tVersion a0, .lst tTxn a1, .lst tTxn a2, .int .i64 a3, .int .i64 a4]] [] (fun v s => k (v, s))) :=
  (impl_emptyBase_p (a0, (a1, (a2, (a3, a4))))).bind (H := fun (y : Bool) (k : AV × St → Option Res) => (fun (y : Bool) => k ((.bool y : AV), ([] : St))) y) (fun y => par_ret _)

def impl_within_g (args : List AV) (st : St) (k : K1) : Option Res :=
  onPats [.int .i64, .int .i64, .int .i64] [] args st (fun p q => impl_within_k p.1 p.2.1 p.2.2.1 (fun (y : Bool) => k (.bool y) []))
    (none)

theorem impl_within_q (a0 : Int) (a1 : Int) (a2 : Int) : Par (fun k : AV × St → Option Res => impl_within_g [.int .i64 a0, .int .i64 a1, .int .i64 a2] [] (fun v s => k (v, s))) :=
  (impl_within_p a0 a1 a2).bind (H := fun (y : Bool) (k : AV × St → Option Res) => (fun (y : Bool) => k ((.bool y : AV), ([] : St))) y) (fun y => par_ret _)

def impl_KeyOk_g (args : List AV) (st : St) (k : K1) : Option Res :=
  onPats [.str] [] args st (fun p q => impl_KeyOk_k p.1 (fun (y : Bool) => k (.bool y) []))
    (none)

theorem impl_KeyOk_q (a0 : ByteArray) : Par (fun k : AV × St → Option Res => impl_KeyOk_g [.str a0] [] (fun v s => k (v, s))) :=
  (impl_KeyOk_p a0).bind (H := fun (y : Bool) (k : AV × St → Option Res) => (fun (y : Bool) => k ((.bool y : AV), ([] : St))) y) (fun y => par_ret _)

def impl_RangeOk_g (args : List AV) (st : St) (k : K1) : Option Res :=
  onPats [.agg [.str, .str]] [] args st (fun p q => impl_RangeOk_k (p.1.1, p.1.2.1) (fun (y : Bool) => k (.bool y) []))
    (none)

theorem impl_RangeOk_q (a0 : ByteArray) (a1 : ByteArray) : Par (fun k : AV × St → Option Res => impl_RangeOk_g [.agg [.str a0, .str a1]] [] (fun v s => k (v, s))) :=
  (impl_RangeOk_p (a0, a1)).bind (H := fun (y : Bool) (k : AV × St → Option Res) => (fun (y : Bool) => k ((.bool y : AV), ([] : St))) y) (fun y => par_ret _)

def impl_WriteOk_g (args : List AV) (st : St) (k : K1) : Option Res :=
  onPats [.agg [.str, .str, .bool]] [] args st (fun p q => impl_WriteOk_k (p.1.1, (p.1.2.1, p.1.2.2.1)) (fun (y : Bool) => k (.bool y) []))
    (none)

theorem impl_WriteOk_q (a0 : ByteArray) (a1 : ByteArray) (a2 : Bool) : Par (fun k : AV × St → Option Res => impl_WriteOk_g [.agg [.str a0, .str a1, .bool a2]] [] (fun v s => k (v, s))) :=
  (impl_WriteOk_p (a0, (a1, a2))).bind (H := fun (y : Bool) (k : AV × St → Option Res) => (fun (y : Bool) => k ((.bool y : AV), ([] : St))) y) (fun y => par_ret _)

def impl_WritesOk_g (args : List AV) (st : St) (k : K1) : Option Res :=
  onPats [.lst tWrite] [] args st (fun p q => impl_WritesOk_k p.1 (fun (y : Bool) => k (.bool y) []))
    (none)

theorem impl_WritesOk_q (a0 : (List dWrite)) : Par (fun k : AV × St → Option Res => impl_WritesOk_g [.lst tWrite a0] [] (fun v s => k (v, s))) :=
  (impl_WritesOk_p a0).bind (H := fun (y : Bool) (k : AV × St → Option Res) => (fun (y : Bool) => k ((.bool y : AV), ([] : St))) y) (fun y => par_ret _)

def impl_TxnOk_g (args : List AV) (st : St) (k : K1) : Option Res :=
  onPats [.agg [.int .i64, .int .i64, .int .i64, .int .i64, .lst tRange, .lst tWrite, .bool, .str]] [] args st (fun p q => impl_TxnOk_k (p.1.1, (p.1.2.1, (p.1.2.2.1, (p.1.2.2.2.1, (p.1.2.2.2.2.1, (p.1.2.2.2.2.2.1, (p.1.2.2.2.2.2.2.1, p.1.2.2.2.2.2.2.2.1))))))) (fun (y : Bool) => k (.bool y) []))
    (none)

theorem impl_TxnOk_q (a0 : Int) (a1 : Int) (a2 : Int) (a3 : Int) (a4 : (List dRange)) (a5 : (List dWrite)) (a6 : Bool) (a7 : ByteArray) : Par (fun k : AV × St → Option Res => impl_TxnOk_g [.agg [.int .i64 a0, .int .i64 a1, .int .i64 a2, .int .i64 a3, .lst tRange a4, .lst tWrite a5, .bool a6, .str a7]] [] (fun v s => k (v, s))) :=
  (impl_TxnOk_p (a0, (a1, (a2, (a3, (a4, (a5, (a6, a7)))))))).bind (H := fun (y : Bool) (k : AV × St → Option Res) => (fun (y : Bool) => k ((.bool y : AV), ([] : St))) y) (fun y => par_ret _)

def impl_isDone_g (args : List AV) (st : St) (k : K1) : Option Res :=
  onPats [.agg [.int .i64, .int .i64, .int .i64, .int .i64, .lst tRange, .lst tWrite, .bool, .str]] [] args st (fun p q => impl_isDone_k (p.1.1, (p.1.2.1, (p.1.2.2.1, (p.1.2.2.2.1, (p.1.2.2.2.2.1, (p.1.2.2.2.2.2.1, (p.1.2.2.2.2.2.2.1, p.1.2.2.2.2.2.2.2.1))))))) (fun (y : Bool) => k (.bool y) []))
    (none)

theorem impl_isDone_q (a0 : Int) (a1 : Int) (a2 : Int) (a3 : Int) (a4 : (List dRange)) (a5 : (List dWrite)) (a6 : Bool) (a7 : ByteArray) : Par (fun k : AV × St → Option Res => impl_isDone_g [.agg [.int .i64 a0, .int .i64 a1, .int .i64 a2, .int .i64 a3, .lst tRange a4, .lst tWrite a5, .bool a6, .str a7]] [] (fun v s => k (v, s))) :=
  (impl_isDone_p (a0, (a1, (a2, (a3, (a4, (a5, (a6, a7)))))))).bind (H := fun (y : Bool) (k : AV × St → Option Res) => (fun (y : Bool) => k ((.bool y : AV), ([] : St))) y) (fun y => par_ret _)

def impl_isReady_g (args : List AV) (st : St) (k : K1) : Option Res :=
  onPats [.agg [.int .i64, .int .i64, .int .i64, .int .i64, .lst tRange, .lst tWrite, .bool, .str]] [] args st (fun p q => impl_isReady_k (p.1.1, (p.1.2.1, (p.1.2.2.1, (p.1.2.2.2.1, (p.1.2.2.2.2.1, (p.1.2.2.2.2.2.1, (p.1.2.2.2.2.2.2.1, p.1.2.2.2.2.2.2.2.1))))))) (fun (y : Bool) => k (.bool y) []))
    (none)

theorem impl_isReady_q (a0 : Int) (a1 : Int) (a2 : Int) (a3 : Int) (a4 : (List dRange)) (a5 : (List dWrite)) (a6 : Bool) (a7 : ByteArray) : Par (fun k : AV × St → Option Res => impl_isReady_g [.agg [.int .i64 a0, .int .i64 a1, .int .i64 a2, .int .i64 a3, .lst tRange a4, .lst tWrite a5, .bool a6, .str a7]] [] (fun v s => k (v, s))) :=
  (impl_isReady_p (a0, (a1, (a2, (a3, (a4, (a5, (a6, a7)))))))).bind (H := fun (y : Bool) (k : AV × St → Option Res) => (fun (y : Bool) => k ((.bool y : AV), ([] : St))) y) (fun y => par_ret _)

def cmp_isNaN_string_g (args : List AV) (st : St) (k : K1) : Option Res :=
  onPats [.str] [] args st (fun p q => cmp_isNaN_string_k p.1 (fun (y : Bool) => k (.bool y) []))
    (none)

theorem cmp_isNaN_string_q (a0 : ByteArray) : Par (fun k : AV × St → Option Res => cmp_isNaN_string_g [.str a0] [] (fun v s => k (v, s))) :=
  (cmp_isNaN_string_p a0).bind (H := fun (y : Bool) (k : AV × St → Option Res) => (fun (y : Bool) => k ((.bool y : AV), ([] : St))) y) (fun y => par_ret _)

def cmp_Compare_string_g (args : List AV) (st : St) (k : K1) : Option Res :=
  onPats [.str, .str] [] args st (fun p q => cmp_Compare_string_k p.1 p.2.1 (fun (y : Int) => k (.int .i64 y) []))
    (none)

theorem cmp_Compare_string_q (a0 : ByteArray) (a1 : ByteArray) : Par (fun k : AV × St → Option Res => cmp_Compare_string_g [.str a0, .str a1] [] (fun v s => k (v, s))) :=
  (cmp_Compare_string_p a0 a1).bind (H := fun (y : Int) (k : AV × St → Option Res) => (fun (y : Int) => k ((.int .i64 y : AV), ([] : St))) y) (fun y => par_ret _)

def cmp_isNaN_int_g (args : List AV) (st : St) (k : K1) : Option Res :=
  onPats [.int .i64] [] args st (fun p q => cmp_isNaN_int_k p.1 (fun (y : Bool) => k (.bool y) []))
    (none)

theorem cmp_isNaN_int_q (a0 : Int) : Par (fun k : AV × St → Option Res => cmp_isNaN_int_g [.int .i64 a0] [] (fun v s => k (v, s))) :=
  (cmp_isNaN_int_p a0).bind (H := fun (y : Bool) (k : AV × St → Option Res) => (fun (y : Bool) => k ((.bool y : AV), ([] : St))) y) (fun y => par_ret _)

def cmp_Compare_int_g (args : List AV) (st : St) (k : K1) : Option Res :=
  onPats [.int .i64, .int .i64] [] args st (fun p q => cmp_Compare_int_k p.1 p.2.1 (fun (y : Int) => k (.int .i64 y) []))
    (none)

theorem cmp_Compare_int_q (a0 : Int) (a1 : Int) : Par (fun k : AV × St → Option Res => cmp_Compare_int_g [.int .i64 a0, .int .i64 a1] [] (fun v s => k (v, s))) :=
  (cmp_Compare_int_p a0 a1).bind (H := fun (y : Int) (k : AV × St → Option Res) => (fun (y : Int) => k ((.int .i64 y : AV), ([] : St))) y) (fun y => par_ret _)

def impl_compareVersion_g (args : List AV) (st : St) (k : K1) : Option Res :=
  onPats [.agg [.str, .str, .bool, .int .i64], .agg [.str, .str, .bool, .int .i64]] [] args st (fun p q => impl_compareVersion_k (p.1.1, (p.1.2.1, (p.1.2.2.1, p.1.2.2.2.1))) (p.2.1.1, (p.2.1.2.1, (p.2.1.2.2.1, p.2.1.2.2.2.1))) (fun (y : Int) => k (.int .i64 y) []))
    (none)

theorem impl_compareVersion_q (a0 : ByteArray) (a1 : ByteArray) (a2 : Bool) (a3 : Int) (a4 : ByteArray) (a5 : ByteArray) (a6 : Bool) (a7 : Int) : Par (fun k : AV × St → Option Res => impl_compareVersion_g [.agg [.str a0, .str a1, .bool a2, .int .i64 a3], .agg [.str a4, .str a5, .bool a6, .int .i64 a7]] [] (fun v s => k (v, s))) :=
  (impl_compareVersion_p (a0, (a1, (a2, a3))) (a4, (a5, (a6, a7)))).bind (H := fun (y : Int) (k : AV × St → Option Res) => (fun (y : Int) => k ((.int .i64 y : AV), ([] : St))) y) (fun y => par_ret _)

def impl_VersionsOk_g (args : List AV) (st : St) (k : K1) : Option Res :=
  onPats [.lst tVersion] [] args st (fun p q => impl_VersionsOk_k p.1 (fun (y : Bool) => k (.bool y) []))
    (none)

theorem impl_VersionsOk_q (a0 : (List dVersion)) : Par (fun k : AV × St → Option Res => impl_VersionsOk_g [.lst tVersion a0] [] (fun v s => k (v, s))) :=
  (impl_VersionsOk_p a0).bind (H := fun (y : Bool) (k : AV × St → Option Res) => (fun (y : Bool) => k ((.bool y : AV), ([] : St))) y) (fun y => par_ret _)

def slices_Grow_Txn_g (args : List AV) (st : St) (k : K1) : Option Res :=
  onPats [.nilS, .int .i64] [] args st (fun p q => slices_Grow_Txn_vn_k p.2.1 (fun (y : (List dTxn)) => k (.own 0) [.arr tTxn y]))
    (none)

theorem slices_Grow_Txn_vn_q (a0 : Int) : Par (fun k : AV × St → Option Res => slices_Grow_Txn_g [.nilS, .int .i64 a0] [] (fun v s => k (v, s))) :=
  (slices_Grow_Txn_vn_p a0).bind (H := fun (y : (List dTxn)) (k : AV × St → Option Res) => (fun (y : (List dTxn)) => k ((.own 0 : AV), ([.arr tTxn y] : St))) y) (fun y => par_ret _)

def slices_Concat_Txn_g (args : List AV) (st : St) (k : K1) : Option Res :=
  onPats [.lst (.slice tTxn)] [] args st (fun p q => slices_Concat_Txn_k p.1 (fun (y : (List dTxn)) => k (.own 0) [.arr tTxn y]))
    (none)

theorem slices_Concat_Txn_q (a0 : (List (List dTxn))) : Par (fun k : AV × St → Option Res => slices_Concat_Txn_g [.lst (.slice tTxn) a0] [] (fun v s => k (v, s))) :=
  (slices_Concat_Txn_p a0).bind (H := fun (y : (List dTxn)) (k : AV × St → Option Res) => (fun (y : (List dTxn)) => k ((.own 0 : AV), ([.arr tTxn y] : St))) y) (fun y => par_ret _)

def impl_idsUnlike_1_g (args : List AV) (st : St) (k : K1) : Option Res :=
  onPats [.agg [.int .i64, .int .i64, .int .i64, .int .i64, .lst tRange, .lst tWrite, .bool, .str], .bp 0 0] [.box [.int .i64, .int .i64, .int .i64, .int .i64, .lst tRange, .lst tWrite, .bool, .str]] args st (fun p q => impl_idsUnlike_1_k (p.1.1, (p.1.2.1, (p.1.2.2.1, (p.1.2.2.2.1, (p.1.2.2.2.2.1, (p.1.2.2.2.2.2.1, (p.1.2.2.2.2.2.2.1, p.1.2.2.2.2.2.2.2.1))))))) q.1.1 q.1.2.1 q.1.2.2.1 q.1.2.2.2.1 q.1.2.2.2.2.1 q.1.2.2.2.2.2.1 q.1.2.2.2.2.2.2.1 q.1.2.2.2.2.2.2.2.1 (fun (y : q34T) => k (.bool y.1) [.box [.int .i64 y.2.1, .int .i64 y.2.2.1, .int .i64 y.2.2.2.1, .int .i64 y.2.2.2.2.1, .lst tRange y.2.2.2.2.2.1, .lst tWrite y.2.2.2.2.2.2.1, .bool y.2.2.2.2.2.2.2.1, .str y.2.2.2.2.2.2.2.2]]))
    (none)

theorem impl_idsUnlike_1_q (a0 : Int) (a1 : Int) (a2 : Int) (a3 : Int) (a4 : (List dRange)) (a5 : (List dWrite)) (a6 : Bool) (a7 : ByteArray) (a8 : Int) (a9 : Int) (a10 : Int) (a11 : Int) (a12 : (List dRange)) (a13 : (List dWrite)) (a14 : Bool) (a15 : ByteArray) : Par (fun k : AV × St → Option Res => impl_idsUnlike_1_g [.agg [.int .i64 a0, .int .i64 a1, .int .i64 a2, .int .i64 a3, .lst tRange a4, .lst tWrite a5, .bool a6, .str a7], .bp 0 0] [.box [.int .i64 a8, .int .i64 a9, .int .i64 a10, .int .i64 a11, .lst tRange a12, .lst tWrite a13, .bool a14, .str a15]] (fun v s => k (v, s))) :=
  (impl_idsUnlike_1_p (a0, (a1, (a2, (a3, (a4, (a5, (a6, a7))))))) a8 a9 a10 a11 a12 a13 a14 a15).bind (H := fun (y : q34T) (k : AV × St → Option Res) => (fun (y : q34T) => k ((.bool y.1 : AV), ([.box [.int .i64 y.2.1, .int .i64 y.2.2.1, .int .i64 y.2.2.2.1, .int .i64 y.2.2.2.2.1, .lst tRange y.2.2.2.2.2.1, .lst tWrite y.2.2.2.2.2.2.1, .bool y.2.2.2.2.2.2.2.1, .str y.2.2.2.2.2.2.2.2]] : St))) y) (fun y => par_ret _)

def slices_IndexFunc_Txn_g (args : List AV) (st : St) (k : K1) : Option Res :=
  onPats [.lst tTxn, .fn 227 [.bp 0 0]] [.box [.int .i64, .int .i64, .int .i64, .int .i64, .lst tRange, .lst tWrite, .bool, .str]] args st (fun p q => slices_IndexFunc_Txn_idsUnlike_1_k p.1 q.1.1 q.1.2.1 q.1.2.2.1 q.1.2.2.2.1 q.1.2.2.2.2.1 q.1.2.2.2.2.2.1 q.1.2.2.2.2.2.2.1 q.1.2.2.2.2.2.2.2.1 (fun (y : q46T) => k (.int .i64 y.1) [.box [.int .i64 y.2.1, .int .i64 y.2.2.1, .int .i64 y.2.2.2.1, .int .i64 y.2.2.2.2.1, .lst tRange y.2.2.2.2.2.1, .lst tWrite y.2.2.2.2.2.2.1, .bool y.2.2.2.2.2.2.2.1, .str y.2.2.2.2.2.2.2.2]]))
    (none)

theorem slices_IndexFunc_Txn_idsUnlike_1_q (a0 : (List dTxn)) (a1 : Int) (a2 : Int) (a3 : Int) (a4 : Int) (a5 : (List dRange)) (a6 : (List dWrite)) (a7 : Bool) (a8 : ByteArray) : Par (fun k : AV × St → Option Res => slices_IndexFunc_Txn_g [.lst tTxn a0, .fn 227 [.bp 0 0]] [.box [.int .i64 a1, .int .i64 a2, .int .i64 a3, .int .i64 a4, .lst tRange a5, .lst tWrite a6, .bool a7, .str a8]] (fun v s => k (v, s))) :=
  (slices_IndexFunc_Txn_idsUnlike_1_p a0 a1 a2 a3 a4 a5 a6 a7 a8).bind (H := fun (y : q46T) (k : AV × St → Option Res) => (fun (y : q46T) => k ((.int .i64 y.1 : AV), ([.box [.int .i64 y.2.1, .int .i64 y.2.2.1, .int .i64 y.2.2.2.1, .int .i64 y.2.2.2.2.1, .lst tRange y.2.2.2.2.2.1, .lst tWrite y.2.2.2.2.2.2.1, .bool y.2.2.2.2.2.2.2.1, .str y.2.2.2.2.2.2.2.2]] : St))) y) (fun y => par_ret _)

def slices_ContainsFunc_Txn_g (args : List AV) (st : St) (k : K1) : Option Res :=
  onPats [.lst tTxn, .fn 227 [.bp 0 0]] [.box [.int .i64, .int .i64, .int .i64, .int .i64, .lst tRange, .lst tWrite, .bool, .str]] args st (fun p q => slices_ContainsFunc_Txn_idsUnlike_1_k p.1 q.1.1 q.1.2.1 q.1.2.2.1 q.1.2.2.2.1 q.1.2.2.2.2.1 q.1.2.2.2.2.2.1 q.1.2.2.2.2.2.2.1 q.1.2.2.2.2.2.2.2.1 (fun (y : q34T) => k (.bool y.1) [.box [.int .i64 y.2.1, .int .i64 y.2.2.1, .int .i64 y.2.2.2.1, .int .i64 y.2.2.2.2.1, .lst tRange y.2.2.2.2.2.1, .lst tWrite y.2.2.2.2.2.2.1, .bool y.2.2.2.2.2.2.2.1, .str y.2.2.2.2.2.2.2.2]]))
    (none)

theorem slices_ContainsFunc_Txn_idsUnlike_1_q (a0 : (List dTxn)) (a1 : Int) (a2 : Int) (a3 : Int) (a4 : Int) (a5 : (List dRange)) (a6 : (List dWrite)) (a7 : Bool) (a8 : ByteArray) : Par (fun k : AV × St → Option Res => slices_ContainsFunc_Txn_g [.lst tTxn a0, .fn 227 [.bp 0 0]] [.box [.int .i64 a1, .int .i64 a2, .int .i64 a3, .int .i64 a4, .lst tRange a5, .lst tWrite a6, .bool a7, .str a8]] (fun v s => k (v, s))) :=
  (slices_ContainsFunc_Txn_idsUnlike_1_p a0 a1 a2 a3 a4 a5 a6 a7 a8).bind (H := fun (y : q34T) (k : AV × St → Option Res) => (fun (y : q34T) => k ((.bool y.1 : AV), ([.box [.int .i64 y.2.1, .int .i64 y.2.2.1, .int .i64 y.2.2.2.1, .int .i64 y.2.2.2.2.1, .lst tRange y.2.2.2.2.2.1, .lst tWrite y.2.2.2.2.2.2.1, .bool y.2.2.2.2.2.2.2.1, .str y.2.2.2.2.2.2.2.2]] : St))) y) (fun y => par_ret _)

def impl_some_g (args : List AV) (st : St) (k : K1) : Option Res :=
  onPats [.lst tTxn, .fn 227 [.bp 0 0]] [.box [.int .i64, .int .i64, .int .i64, .int .i64, .lst tRange, .lst tWrite, .bool, .str]] args st (fun p q => impl_some_idsUnlike_1_k p.1 q.1.1 q.1.2.1 q.1.2.2.1 q.1.2.2.2.1 q.1.2.2.2.2.1 q.1.2.2.2.2.2.1 q.1.2.2.2.2.2.2.1 q.1.2.2.2.2.2.2.2.1 (fun (y : q34T) => k (.bool y.1) [.box [.int .i64 y.2.1, .int .i64 y.2.2.1, .int .i64 y.2.2.2.1, .int .i64 y.2.2.2.2.1, .lst tRange y.2.2.2.2.2.1, .lst tWrite y.2.2.2.2.2.2.1, .bool y.2.2.2.2.2.2.2.1, .str y.2.2.2.2.2.2.2.2]]))
    (none)

theorem impl_some_idsUnlike_1_q (a0 : (List dTxn)) (a1 : Int) (a2 : Int) (a3 : Int) (a4 : Int) (a5 : (List dRange)) (a6 : (List dWrite)) (a7 : Bool) (a8 : ByteArray) : Par (fun k : AV × St → Option Res => impl_some_g [.lst tTxn a0, .fn 227 [.bp 0 0]] [.box [.int .i64 a1, .int .i64 a2, .int .i64 a3, .int .i64 a4, .lst tRange a5, .lst tWrite a6, .bool a7, .str a8]] (fun v s => k (v, s))) :=
  (impl_some_idsUnlike_1_p a0 a1 a2 a3 a4 a5 a6 a7 a8).bind (H := fun (y : q34T) (k : AV × St → Option Res) => (fun (y : q34T) => k ((.bool y.1 : AV), ([.box [.int .i64 y.2.1, .int .i64 y.2.2.1, .int .i64 y.2.2.2.1, .int .i64 y.2.2.2.2.1, .lst tRange y.2.2.2.2.2.1, .lst tWrite y.2.2.2.2.2.2.1, .bool y.2.2.2.2.2.2.2.1, .str y.2.2.2.2.2.2.2.2]] : St))) y) (fun y => par_ret _)

def impl_idsUnlike_g (args : List AV) (st : St) (k : K1) : Option Res :=
  onPats [.lst tTxn, .int .i64] [] args st (fun p q => impl_idsUnlike_k p.1 p.2.1 (fun (y : Bool) => k (.bool y) []))
    (none)

theorem impl_idsUnlike_q (a0 : (List dTxn)) (a1 : Int) : Par (fun k : AV × St → Option Res => impl_idsUnlike_g [.lst tTxn a0, .int .i64 a1] [] (fun v s => k (v, s))) :=
  (impl_idsUnlike_p a0 a1).bind (H := fun (y : Bool) (k : AV × St → Option Res) => (fun (y : Bool) => k ((.bool y : AV), ([] : St))) y) (fun y => par_ret _)

def impl_BaseOk_g (args : List AV) (st : St) (k : K1) : Option Res :=
  onPats [.agg [.lst tVersion, .lst tTxn, .lst tTxn, .int .i64, .int .i64]] [] args st (fun p q => impl_BaseOk_k (p.1.1, (p.1.2.1, (p.1.2.2.1, (p.1.2.2.2.1, p.1.2.2.2.2.1)))) (fun (y : Bool) => k (.bool y) []))
    (none)

theorem impl_BaseOk_q (a0 : (List dVersion)) (a1 : (List dTxn)) (a2 : (List dTxn)) (a3 : Int) (a4 : Int) : Par (fun k : AV × St → Option Res => impl_BaseOk_g [.agg [.lst tVersion a0, .lst tTxn a1, .lst tTxn a2, .int .i64 a3, .int .i64 a4]] [] (fun v s => k (v, s))) :=
  (impl_BaseOk_p (a0, (a1, (a2, (a3, a4))))).bind (H := fun (y : Bool) (k : AV × St → Option Res) => (fun (y : Bool) => k ((.bool y : AV), ([] : St))) y) (fun y => par_ret _)

def impl_RecordOk_g (args : List AV) (st : St) (k : K1) : Option Res :=
  onPats [.agg [.int .i64, .int .i64, .int .i64, .int .i64, .int .i64, .lst tRange, .lst tWrite, .bool, .str, .str, .bool, .lst tVersion, .lst tTxn, .lst tTxn, .int .i64, .int .i64]] [] args st (fun p q => impl_RecordOk_k (p.1.1, ((p.1.2.1, (p.1.2.2.1, (p.1.2.2.2.1, (p.1.2.2.2.2.1, (p.1.2.2.2.2.2.1, (p.1.2.2.2.2.2.2.1, (p.1.2.2.2.2.2.2.2.1, p.1.2.2.2.2.2.2.2.2.1))))))), (p.1.2.2.2.2.2.2.2.2.2.1, (p.1.2.2.2.2.2.2.2.2.2.2.1, (p.1.2.2.2.2.2.2.2.2.2.2.2.1, (p.1.2.2.2.2.2.2.2.2.2.2.2.2.1, (p.1.2.2.2.2.2.2.2.2.2.2.2.2.2.1, (p.1.2.2.2.2.2.2.2.2.2.2.2.2.2.2.1, p.1.2.2.2.2.2.2.2.2.2.2.2.2.2.2.2.1)))))))) (fun (y : Bool) => k (.bool y) []))
    (none)

theorem impl_RecordOk_q (a0 : Int) (a1 : Int) (a2 : Int) (a3 : Int) (a4 : Int) (a5 : (List dRange)) (a6 : (List dWrite)) (a7 : Bool) (a8 : ByteArray) (a9 : ByteArray) (a10 : Bool) (a11 : (List dVersion)) (a12 : (List dTxn)) (a13 : (List dTxn)) (a14 : Int) (a15 : Int) : Par (fun k : AV × St → Option Res => impl_RecordOk_g [.agg [.int .i64 a0, .int .i64 a1, .int .i64 a2, .int .i64 a3, .int .i64 a4, .lst tRange a5, .lst tWrite a6, .bool a7, .str a8, .str a9, .bool a10, .lst tVersion a11, .lst tTxn a12, .lst tTxn a13, .int .i64 a14, .int .i64 a15]] [] (fun v s => k (v, s))) :=
  (impl_RecordOk_p (a0, ((a1, (a2, (a3, (a4, (a5, (a6, (a7, a8))))))), (a9, (a10, (a11, (a12, (a13, (a14, a15))))))))).bind (H := fun (y : Bool) (k : AV × St → Option Res) => (fun (y : Bool) => k ((.bool y : AV), ([] : St))) y) (fun y => par_ret _)

def impl_VarText_g (args : List AV) (st : St) (k : K1) : Option Res :=
  onPats [.int .i64] [] args st (fun p q => impl_VarText_k p.1 (fun (y : (ByteArray × Bool)) => k (.tup [.str y.1, .bool y.2]) []))
    (none)

theorem impl_VarText_q (a0 : Int) : Par (fun k : AV × St → Option Res => impl_VarText_g [.int .i64 a0] [] (fun v s => k (v, s))) :=
  (impl_VarText_p a0).bind (H := fun (y : (ByteArray × Bool)) (k : AV × St → Option Res) => (fun (y : (ByteArray × Bool)) => k ((.tup [.str y.1, .bool y.2] : AV), ([] : St))) y) (fun y => par_ret _)

def impl_ShortText_g (args : List AV) (st : St) (k : K1) : Option Res :=
  onPats [.str] [] args st (fun p q => impl_ShortText_k p.1 (fun (y : (ByteArray × Bool)) => k (.tup [.str y.1, .bool y.2]) []))
    (none)

theorem impl_ShortText_q (a0 : ByteArray) : Par (fun k : AV × St → Option Res => impl_ShortText_g [.str a0] [] (fun v s => k (v, s))) :=
  (impl_ShortText_p a0).bind (H := fun (y : (ByteArray × Bool)) (k : AV × St → Option Res) => (fun (y : (ByteArray × Bool)) => k ((.tup [.str y.1, .bool y.2] : AV), ([] : St))) y) (fun y => par_ret _)

def impl_plan_text_g (args : List AV) (st : St) (k : K1) : Option Res :=
  onPats [.bp 0 0, .lst .str] [.box [.own 1], .arr (.int .u8)] args st (fun p q => impl_plan_text_k p.2.1 q.2.1 (Sum.elim (fun (y : (List Int)) => k (.tup []) [.box [.own 1], .arr (.int .u8) y]) (fun (y : (List Int)) => k (.tup []) [.box [.own 2], .gone, .arr (.int .u8) y])))
    (none)

theorem impl_plan_text_q (a0 : (List ByteArray)) (a1 : (List Int)) : Par (fun k : AV × St → Option Res => impl_plan_text_g [.bp 0 0, .lst .str a0] [.box [.own 1], .arr (.int .u8) a1] (fun v s => k (v, s))) :=
  (impl_plan_text_p a0 a1).bind (H := fun (y : ((List Int) ⊕ (List Int))) (k : AV × St → Option Res) => (Sum.elim (fun (y : (List Int)) => k ((.tup [] : AV), ([.box [.own 1], .arr (.int .u8) y] : St))) (fun (y : (List Int)) => k ((.tup [] : AV), ([.box [.own 2], .gone, .arr (.int .u8) y] : St)))) y) (fun y => by rcases y with y | y <;> exact par_ret _)

def impl_plan_flag_g (args : List AV) (st : St) (k : K1) : Option Res :=
  onPats [.bp 0 0, .bool] [.box [.own 1], .arr (.int .u8)] args st (fun p q => impl_plan_flag_k p.2.1 q.2.1 (fun (y : (List Int)) => k (.tup []) [.box [.own 2], .gone, .arr (.int .u8) y]))
    (none)

theorem impl_plan_flag_q (a0 : Bool) (a1 : (List Int)) : Par (fun k : AV × St → Option Res => impl_plan_flag_g [.bp 0 0, .bool a0] [.box [.own 1], .arr (.int .u8) a1] (fun v s => k (v, s))) :=
  (impl_plan_flag_p a0 a1).bind (H := fun (y : (List Int)) (k : AV × St → Option Res) => (fun (y : (List Int)) => k ((.tup [] : AV), ([.box [.own 2], .gone, .arr (.int .u8) y] : St))) y) (fun y => par_ret _)

def impl_plan_num_g (args : List AV) (st : St) (k : K1) : Option Res :=
  onPats [.bp 0 0, .lst (.int .i64)] [.box [.nilS]] args st (fun p q => impl_plan_num_k p.2.1 (fun (y : (List Int)) => k (.tup []) [.box [.own 1], .arr (.int .u8) y]))
    (onPats [.bp 0 0, .lst (.int .i64)] [.box [.own 1], .arr (.int .u8)] args st (fun p q => impl_plan_num_61bd_k p.2.1 q.2.1 (Sum.elim (fun (y : (List Int)) => k (.tup []) [.box [.own 1], .arr (.int .u8) y]) (fun (y : (List Int)) => k (.tup []) [.box [.own 2], .gone, .arr (.int .u8) y])))
    (none))

theorem impl_plan_num_q (a0 : (List Int)) : Par (fun k : AV × St → Option Res => impl_plan_num_g [.bp 0 0, .lst (.int .i64) a0] [.box [.nilS]] (fun v s => k (v, s))) :=
  (impl_plan_num_p a0).bind (H := fun (y : (List Int)) (k : AV × St → Option Res) => (fun (y : (List Int)) => k ((.tup [] : AV), ([.box [.own 1], .arr (.int .u8) y] : St))) y) (fun y => par_ret _)

theorem impl_plan_num_61bd_q (a0 : (List Int)) (a1 : (List Int)) : Par (fun k : AV × St → Option Res => impl_plan_num_g [.bp 0 0, .lst (.int .i64) a0] [.box [.own 1], .arr (.int .u8) a1] (fun v s => k (v, s))) :=
  (impl_plan_num_61bd_p a0 a1).bind (H := fun (y : ((List Int) ⊕ (List Int))) (k : AV × St → Option Res) => (Sum.elim (fun (y : (List Int)) => k ((.tup [] : AV), ([.box [.own 1], .arr (.int .u8) y] : St))) (fun (y : (List Int)) => k ((.tup [] : AV), ([.box [.own 2], .gone, .arr (.int .u8) y] : St)))) y) (fun y => by rcases y with y | y <;> exact par_ret _)

def impl_TxnText_g (args : List AV) (st : St) (k : K1) : Option Res :=
  onPats [.agg [.int .i64, .int .i64, .int .i64, .int .i64, .lst tRange, .lst tWrite, .bool, .str]] [] args st (fun p q => impl_TxnText_k (p.1.1, (p.1.2.1, (p.1.2.2.1, (p.1.2.2.2.1, (p.1.2.2.2.2.1, (p.1.2.2.2.2.2.1, (p.1.2.2.2.2.2.2.1, p.1.2.2.2.2.2.2.2.1))))))) (fun (y : (ByteArray × Bool)) => k (.tup [.str y.1, .bool y.2]) []))
    (none)

theorem impl_TxnText_q (a0 : Int) (a1 : Int) (a2 : Int) (a3 : Int) (a4 : (List dRange)) (a5 : (List dWrite)) (a6 : Bool) (a7 : ByteArray) : Par (fun k : AV × St → Option Res => impl_TxnText_g [.agg [.int .i64 a0, .int .i64 a1, .int .i64 a2, .int .i64 a3, .lst tRange a4, .lst tWrite a5, .bool a6, .str a7]] [] (fun v s => k (v, s))) :=
  (impl_TxnText_p (a0, (a1, (a2, (a3, (a4, (a5, (a6, a7)))))))).bind (H := fun (y : (ByteArray × Bool)) (k : AV × St → Option Res) => (fun (y : (ByteArray × Bool)) => k ((.tup [.str y.1, .bool y.2] : AV), ([] : St))) y) (fun y => par_ret _)

def impl_BaseText_g (args : List AV) (st : St) (k : K1) : Option Res :=
  onPats [.agg [.lst tVersion, .lst tTxn, .lst tTxn, .int .i64, .int .i64]] [] args st (fun p q => impl_BaseText_k (p.1.1, (p.1.2.1, (p.1.2.2.1, (p.1.2.2.2.1, p.1.2.2.2.2.1)))) (fun (y : (ByteArray × Bool)) => k (.tup [.str y.1, .bool y.2]) []))
    (none)

theorem impl_BaseText_q (a0 : (List dVersion)) (a1 : (List dTxn)) (a2 : (List dTxn)) (a3 : Int) (a4 : Int) : Par (fun k : AV × St → Option Res => impl_BaseText_g [.agg [.lst tVersion a0, .lst tTxn a1, .lst tTxn a2, .int .i64 a3, .int .i64 a4]] [] (fun v s => k (v, s))) :=
  (impl_BaseText_p (a0, (a1, (a2, (a3, a4))))).bind (H := fun (y : (ByteArray × Bool)) (k : AV × St → Option Res) => (fun (y : (ByteArray × Bool)) => k ((.tup [.str y.1, .bool y.2] : AV), ([] : St))) y) (fun y => par_ret _)

def impl_SumMore_g (args : List AV) (st : St) (k : K1) : Option Res :=
  onPats [.int .u32, .str] [] args st (fun p q => impl_SumMore_k p.1 p.2.1 (fun (y : Int) => k (.int .u32 y) []))
    (none)

theorem impl_SumMore_q (a0 : Int) (a1 : ByteArray) : Par (fun k : AV × St → Option Res => impl_SumMore_g [.int .u32 a0, .str a1] [] (fun v s => k (v, s))) :=
  (impl_SumMore_p a0 a1).bind (H := fun (y : Int) (k : AV × St → Option Res) => (fun (y : Int) => k ((.int .u32 y : AV), ([] : St))) y) (fun y => par_ret _)

def impl_SumOf_g (args : List AV) (st : St) (k : K1) : Option Res :=
  onPats [.str] [] args st (fun p q => impl_SumOf_k p.1 (fun (y : Int) => k (.int .u32 y) []))
    (none)

theorem impl_SumOf_q (a0 : ByteArray) : Par (fun k : AV × St → Option Res => impl_SumOf_g [.str a0] [] (fun v s => k (v, s))) :=
  (impl_SumOf_p a0).bind (H := fun (y : Int) (k : AV × St → Option Res) => (fun (y : Int) => k ((.int .u32 y : AV), ([] : St))) y) (fun y => par_ret _)

def impl_Sealed_g (args : List AV) (st : St) (k : K1) : Option Res :=
  onPats [.str] [] args st (fun p q => impl_Sealed_k p.1 (fun (y : (ByteArray × Bool)) => k (.tup [.str y.1, .bool y.2]) []))
    (none)

theorem impl_Sealed_q (a0 : ByteArray) : Par (fun k : AV × St → Option Res => impl_Sealed_g [.str a0] [] (fun v s => k (v, s))) :=
  (impl_Sealed_p a0).bind (H := fun (y : (ByteArray × Bool)) (k : AV × St → Option Res) => (fun (y : (ByteArray × Bool)) => k ((.tup [.str y.1, .bool y.2] : AV), ([] : St))) y) (fun y => par_ret _)

def impl_RecordText_g (args : List AV) (st : St) (k : K1) : Option Res :=
  onPats [.agg [.int .i64, .int .i64, .int .i64, .int .i64, .int .i64, .lst tRange, .lst tWrite, .bool, .str, .str, .bool, .lst tVersion, .lst tTxn, .lst tTxn, .int .i64, .int .i64]] [] args st (fun p q => impl_RecordText_k (p.1.1, ((p.1.2.1, (p.1.2.2.1, (p.1.2.2.2.1, (p.1.2.2.2.2.1, (p.1.2.2.2.2.2.1, (p.1.2.2.2.2.2.2.1, (p.1.2.2.2.2.2.2.2.1, p.1.2.2.2.2.2.2.2.2.1))))))), (p.1.2.2.2.2.2.2.2.2.2.1, (p.1.2.2.2.2.2.2.2.2.2.2.1, (p.1.2.2.2.2.2.2.2.2.2.2.2.1, (p.1.2.2.2.2.2.2.2.2.2.2.2.2.1, (p.1.2.2.2.2.2.2.2.2.2.2.2.2.2.1, (p.1.2.2.2.2.2.2.2.2.2.2.2.2.2.2.1, p.1.2.2.2.2.2.2.2.2.2.2.2.2.2.2.2.1)))))))) (fun (y : (ByteArray × Bool)) => k (.tup [.str y.1, .bool y.2]) []))
    (none)

theorem impl_RecordText_q (a0 : Int) (a1 : Int) (a2 : Int) (a3 : Int) (a4 : Int) (a5 : (List dRange)) (a6 : (List dWrite)) (a7 : Bool) (a8 : ByteArray) (a9 : ByteArray) (a10 : Bool) (a11 : (List dVersion)) (a12 : (List dTxn)) (a13 : (List dTxn)) (a14 : Int) (a15 : Int) : Par (fun k : AV × St → Option Res => impl_RecordText_g [.agg [.int .i64 a0, .int .i64 a1, .int .i64 a2, .int .i64 a3, .int .i64 a4, .lst tRange a5, .lst tWrite a6, .bool a7, .str a8, .str a9, .bool a10, .lst tVersion a11, .lst tTxn a12, .lst tTxn a13, .int .i64 a14, .int .i64 a15]] [] (fun v s => k (v, s))) :=
  (impl_RecordText_p (a0, ((a1, (a2, (a3, (a4, (a5, (a6, (a7, a8))))))), (a9, (a10, (a11, (a12, (a13, (a14, a15))))))))).bind (H := fun (y : (ByteArray × Bool)) (k : AV × St → Option Res) => (fun (y : (ByteArray × Bool)) => k ((.tup [.str y.1, .bool y.2] : AV), ([] : St))) y) (fun y => par_ret _)

def laws_eqRange_g (args : List AV) (st : St) (k : K1) : Option Res :=
  onPats [.agg [.str, .str], .agg [.str, .str]] [] args st (fun p q => laws_eqRange_k (p.1.1, p.1.2.1) (p.2.1.1, p.2.1.2.1) (fun (y : Bool) => k (.bool y) []))
    (none)

theorem laws_eqRange_q (a0 : ByteArray) (a1 : ByteArray) (a2 : ByteArray) (a3 : ByteArray) : Par (fun k : AV × St → Option Res => laws_eqRange_g [.agg [.str a0, .str a1], .agg [.str a2, .str a3]] [] (fun v s => k (v, s))) :=
  (laws_eqRange_p (a0, a1) (a2, a3)).bind (H := fun (y : Bool) (k : AV × St → Option Res) => (fun (y : Bool) => k ((.bool y : AV), ([] : St))) y) (fun y => par_ret _)

def laws_eqRangeS_g (args : List AV) (st : St) (k : K1) : Option Res :=
  onPats [.lst tRange, .lst tRange] [] args st (fun p q => laws_eqRangeS_k p.1 p.2.1 (fun (y : Bool) => k (.bool y) []))
    (none)

theorem laws_eqRangeS_q (a0 : (List dRange)) (a1 : (List dRange)) : Par (fun k : AV × St → Option Res => laws_eqRangeS_g [.lst tRange a0, .lst tRange a1] [] (fun v s => k (v, s))) :=
  (laws_eqRangeS_p a0 a1).bind (H := fun (y : Bool) (k : AV × St → Option Res) => (fun (y : Bool) => k ((.bool y : AV), ([] : St))) y) (fun y => par_ret _)

def laws_eqWrite_g (args : List AV) (st : St) (k : K1) : Option Res :=
  onPats [.agg [.str, .str, .bool], .agg [.str, .str, .bool]] [] args st (fun p q => laws_eqWrite_k (p.1.1, (p.1.2.1, p.1.2.2.1)) (p.2.1.1, (p.2.1.2.1, p.2.1.2.2.1)) (fun (y : Bool) => k (.bool y) []))
    (none)

theorem laws_eqWrite_q (a0 : ByteArray) (a1 : ByteArray) (a2 : Bool) (a3 : ByteArray) (a4 : ByteArray) (a5 : Bool) : Par (fun k : AV × St → Option Res => laws_eqWrite_g [.agg [.str a0, .str a1, .bool a2], .agg [.str a3, .str a4, .bool a5]] [] (fun v s => k (v, s))) :=
  (laws_eqWrite_p (a0, (a1, a2)) (a3, (a4, a5))).bind (H := fun (y : Bool) (k : AV × St → Option Res) => (fun (y : Bool) => k ((.bool y : AV), ([] : St))) y) (fun y => par_ret _)

def laws_eqWriteS_g (args : List AV) (st : St) (k : K1) : Option Res :=
  onPats [.lst tWrite, .lst tWrite] [] args st (fun p q => laws_eqWriteS_k p.1 p.2.1 (fun (y : Bool) => k (.bool y) []))
    (none)

theorem laws_eqWriteS_q (a0 : (List dWrite)) (a1 : (List dWrite)) : Par (fun k : AV × St → Option Res => laws_eqWriteS_g [.lst tWrite a0, .lst tWrite a1] [] (fun v s => k (v, s))) :=
  (laws_eqWriteS_p a0 a1).bind (H := fun (y : Bool) (k : AV × St → Option Res) => (fun (y : Bool) => k ((.bool y : AV), ([] : St))) y) (fun y => par_ret _)

def laws_eqTxn_g (args : List AV) (st : St) (k : K1) : Option Res :=
  onPats [.agg [.int .i64, .int .i64, .int .i64, .int .i64, .lst tRange, .lst tWrite, .bool, .str], .agg [.int .i64, .int .i64, .int .i64, .int .i64, .lst tRange, .lst tWrite, .bool, .str]] [] args st (fun p q => laws_eqTxn_k (p.1.1, (p.1.2.1, (p.1.2.2.1, (p.1.2.2.2.1, (p.1.2.2.2.2.1, (p.1.2.2.2.2.2.1, (p.1.2.2.2.2.2.2.1, p.1.2.2.2.2.2.2.2.1))))))) (p.2.1.1, (p.2.1.2.1, (p.2.1.2.2.1, (p.2.1.2.2.2.1, (p.2.1.2.2.2.2.1, (p.2.1.2.2.2.2.2.1, (p.2.1.2.2.2.2.2.2.1, p.2.1.2.2.2.2.2.2.2.1))))))) (fun (y : Bool) => k (.bool y) []))
    (none)

theorem laws_eqTxn_q (a0 : Int) (a1 : Int) (a2 : Int) (a3 : Int) (a4 : (List dRange)) (a5 : (List dWrite)) (a6 : Bool) (a7 : ByteArray) (a8 : Int) (a9 : Int) (a10 : Int) (a11 : Int) (a12 : (List dRange)) (a13 : (List dWrite)) (a14 : Bool) (a15 : ByteArray) : Par (fun k : AV × St → Option Res => laws_eqTxn_g [.agg [.int .i64 a0, .int .i64 a1, .int .i64 a2, .int .i64 a3, .lst tRange a4, .lst tWrite a5, .bool a6, .str a7], .agg [.int .i64 a8, .int .i64 a9, .int .i64 a10, .int .i64 a11, .lst tRange a12, .lst tWrite a13, .bool a14, .str a15]] [] (fun v s => k (v, s))) :=
  (laws_eqTxn_p (a0, (a1, (a2, (a3, (a4, (a5, (a6, a7))))))) (a8, (a9, (a10, (a11, (a12, (a13, (a14, a15)))))))).bind (H := fun (y : Bool) (k : AV × St → Option Res) => (fun (y : Bool) => k ((.bool y : AV), ([] : St))) y) (fun y => par_ret _)

def laws_eqVersion_g (args : List AV) (st : St) (k : K1) : Option Res :=
  onPats [.agg [.str, .str, .bool, .int .i64], .agg [.str, .str, .bool, .int .i64]] [] args st (fun p q => laws_eqVersion_k (p.1.1, (p.1.2.1, (p.1.2.2.1, p.1.2.2.2.1))) (p.2.1.1, (p.2.1.2.1, (p.2.1.2.2.1, p.2.1.2.2.2.1))) (fun (y : Bool) => k (.bool y) []))
    (none)

theorem laws_eqVersion_q (a0 : ByteArray) (a1 : ByteArray) (a2 : Bool) (a3 : Int) (a4 : ByteArray) (a5 : ByteArray) (a6 : Bool) (a7 : Int) : Par (fun k : AV × St → Option Res => laws_eqVersion_g [.agg [.str a0, .str a1, .bool a2, .int .i64 a3], .agg [.str a4, .str a5, .bool a6, .int .i64 a7]] [] (fun v s => k (v, s))) :=
  (laws_eqVersion_p (a0, (a1, (a2, a3))) (a4, (a5, (a6, a7)))).bind (H := fun (y : Bool) (k : AV × St → Option Res) => (fun (y : Bool) => k ((.bool y : AV), ([] : St))) y) (fun y => par_ret _)

def laws_eqVersionS_g (args : List AV) (st : St) (k : K1) : Option Res :=
  onPats [.lst tVersion, .lst tVersion] [] args st (fun p q => laws_eqVersionS_k p.1 p.2.1 (fun (y : Bool) => k (.bool y) []))
    (none)

theorem laws_eqVersionS_q (a0 : (List dVersion)) (a1 : (List dVersion)) : Par (fun k : AV × St → Option Res => laws_eqVersionS_g [.lst tVersion a0, .lst tVersion a1] [] (fun v s => k (v, s))) :=
  (laws_eqVersionS_p a0 a1).bind (H := fun (y : Bool) (k : AV × St → Option Res) => (fun (y : Bool) => k ((.bool y : AV), ([] : St))) y) (fun y => par_ret _)

def laws_eqTxnS_g (args : List AV) (st : St) (k : K1) : Option Res :=
  onPats [.lst tTxn, .lst tTxn] [] args st (fun p q => laws_eqTxnS_k p.1 p.2.1 (fun (y : Bool) => k (.bool y) []))
    (none)

theorem laws_eqTxnS_q (a0 : (List dTxn)) (a1 : (List dTxn)) : Par (fun k : AV × St → Option Res => laws_eqTxnS_g [.lst tTxn a0, .lst tTxn a1] [] (fun v s => k (v, s))) :=
  (laws_eqTxnS_p a0 a1).bind (H := fun (y : Bool) (k : AV × St → Option Res) => (fun (y : Bool) => k ((.bool y : AV), ([] : St))) y) (fun y => par_ret _)

def laws_eqBase_g (args : List AV) (st : St) (k : K1) : Option Res :=
  onPats [.agg [.lst tVersion, .lst tTxn, .lst tTxn, .int .i64, .int .i64], .agg [.lst tVersion, .lst tTxn, .lst tTxn, .int .i64, .int .i64]] [] args st (fun p q => laws_eqBase_k (p.1.1, (p.1.2.1, (p.1.2.2.1, (p.1.2.2.2.1, p.1.2.2.2.2.1)))) (p.2.1.1, (p.2.1.2.1, (p.2.1.2.2.1, (p.2.1.2.2.2.1, p.2.1.2.2.2.2.1)))) (fun (y : Bool) => k (.bool y) []))
    (none)

theorem laws_eqBase_q (a0 : (List dVersion)) (a1 : (List dTxn)) (a2 : (List dTxn)) (a3 : Int) (a4 : Int) (a5 : (List dVersion)) (a6 : (List dTxn)) (a7 : (List dTxn)) (a8 : Int) (a9 : Int) : Par (fun k : AV × St → Option Res => laws_eqBase_g [.agg [.lst tVersion a0, .lst tTxn a1, .lst tTxn a2, .int .i64 a3, .int .i64 a4], .agg [.lst tVersion a5, .lst tTxn a6, .lst tTxn a7, .int .i64 a8, .int .i64 a9]] [] (fun v s => k (v, s))) :=
  (laws_eqBase_p (a0, (a1, (a2, (a3, a4)))) (a5, (a6, (a7, (a8, a9))))).bind (H := fun (y : Bool) (k : AV × St → Option Res) => (fun (y : Bool) => k ((.bool y : AV), ([] : St))) y) (fun y => par_ret _)

def laws_eqRecord_g (args : List AV) (st : St) (k : K1) : Option Res :=
  onPats [.agg [.int .i64, .int .i64, .int .i64, .int .i64, .int .i64, .lst tRange, .lst tWrite, .bool, .str, .str, .bool, .lst tVersion, .lst tTxn, .lst tTxn, .int .i64, .int .i64], .agg [.int .i64, .int .i64, .int .i64, .int .i64, .int .i64, .lst tRange, .lst tWrite, .bool, .str, .str, .bool, .lst tVersion, .lst tTxn, .lst tTxn, .int .i64, .int .i64]] [] args st (fun p q => laws_eqRecord_k (p.1.1, ((p.1.2.1, (p.1.2.2.1, (p.1.2.2.2.1, (p.1.2.2.2.2.1, (p.1.2.2.2.2.2.1, (p.1.2.2.2.2.2.2.1, (p.1.2.2.2.2.2.2.2.1, p.1.2.2.2.2.2.2.2.2.1))))))), (p.1.2.2.2.2.2.2.2.2.2.1, (p.1.2.2.2.2.2.2.2.2.2.2.1, (p.1.2.2.2.2.2.2.2.2.2.2.2.1, (p.1.2.2.2.2.2.2.2.2.2.2.2.2.1, (p.1.2.2.2.2.2.2.2.2.2.2.2.2.2.1, (p.1.2.2.2.2.2.2.2.2.2.2.2.2.2.2.1, p.1.2.2.2.2.2.2.2.2.2.2.2.2.2.2.2.1)))))))) (p.2.1.1, ((p.2.1.2.1, (p.2.1.2.2.1, (p.2.1.2.2.2.1, (p.2.1.2.2.2.2.1, (p.2.1.2.2.2.2.2.1, (p.2.1.2.2.2.2.2.2.1, (p.2.1.2.2.2.2.2.2.2.1, p.2.1.2.2.2.2.2.2.2.2.1))))))), (p.2.1.2.2.2.2.2.2.2.2.2.1, (p.2.1.2.2.2.2.2.2.2.2.2.2.1, (p.2.1.2.2.2.2.2.2.2.2.2.2.2.1, (p.2.1.2.2.2.2.2.2.2.2.2.2.2.2.1, (p.2.1.2.2.2.2.2.2.2.2.2.2.2.2.2.1, (p.2.1.2.2.2.2.2.2.2.2.2.2.2.2.2.2.1, p.2.1.2.2.2.2.2.2.2.2.2.2.2.2.2.2.2.1)))))))) (fun (y : Bool) => k (.bool y) []))
    (none)

theorem laws_eqRecord_q (a0 : Int) (a1 : Int) (a2 : Int) (a3 : Int) (a4 : Int) (a5 : (List dRange)) (a6 : (List dWrite)) (a7 : Bool) (a8 : ByteArray) (a9 : ByteArray) (a10 : Bool) (a11 : (List dVersion)) (a12 : (List dTxn)) (a13 : (List dTxn)) (a14 : Int) (a15 : Int) (a16 : Int) (a17 : Int) (a18 : Int) (a19 : Int) (a20 : Int) (a21 : (List dRange)) (a22 : (List dWrite)) (a23 : Bool) (a24 : ByteArray) (a25 : ByteArray) (a26 : Bool) (a27 : (List dVersion)) (a28 : (List dTxn)) (a29 : (List dTxn)) (a30 : Int) (a31 : Int) : Par (fun k : AV × St → Option Res => laws_eqRecord_g [.agg [.int .i64 a0, .int .i64 a1, .int .i64 a2, .int .i64 a3, .int .i64 a4, .lst tRange a5, .lst tWrite a6, .bool a7, .str a8, .str a9, .bool a10, .lst tVersion a11, .lst tTxn a12, .lst tTxn a13, .int .i64 a14, .int .i64 a15], .agg [.int .i64 a16, .int .i64 a17, .int .i64 a18, .int .i64 a19, .int .i64 a20, .lst tRange a21, .lst tWrite a22, .bool a23, .str a24, .str a25, .bool a26, .lst tVersion a27, .lst tTxn a28, .lst tTxn a29, .int .i64 a30, .int .i64 a31]] [] (fun v s => k (v, s))) :=
  (laws_eqRecord_p (a0, ((a1, (a2, (a3, (a4, (a5, (a6, (a7, a8))))))), (a9, (a10, (a11, (a12, (a13, (a14, a15)))))))) (a16, ((a17, (a18, (a19, (a20, (a21, (a22, (a23, a24))))))), (a25, (a26, (a27, (a28, (a29, (a30, a31))))))))).bind (H := fun (y : Bool) (k : AV × St → Option Res) => (fun (y : Bool) => k ((.bool y : AV), ([] : St))) y) (fun y => par_ret _)

def laws_FnExactRecordText_g (args : List AV) (st : St) (k : K1) : Option Res :=
  onPats [.agg [.int .i64, .int .i64, .int .i64, .int .i64, .int .i64, .lst tRange, .lst tWrite, .bool, .str, .str, .bool, .lst tVersion, .lst tTxn, .lst tTxn, .int .i64, .int .i64]] [] args st (fun p q => laws_FnExactRecordText_k (p.1.1, ((p.1.2.1, (p.1.2.2.1, (p.1.2.2.2.1, (p.1.2.2.2.2.1, (p.1.2.2.2.2.2.1, (p.1.2.2.2.2.2.2.1, (p.1.2.2.2.2.2.2.2.1, p.1.2.2.2.2.2.2.2.2.1))))))), (p.1.2.2.2.2.2.2.2.2.2.1, (p.1.2.2.2.2.2.2.2.2.2.2.1, (p.1.2.2.2.2.2.2.2.2.2.2.2.1, (p.1.2.2.2.2.2.2.2.2.2.2.2.2.1, (p.1.2.2.2.2.2.2.2.2.2.2.2.2.2.1, (p.1.2.2.2.2.2.2.2.2.2.2.2.2.2.2.1, p.1.2.2.2.2.2.2.2.2.2.2.2.2.2.2.2.1)))))))) (fun (y : Bool) => k (.bool y) []))
    (none)

theorem laws_FnExactRecordText_q (a0 : Int) (a1 : Int) (a2 : Int) (a3 : Int) (a4 : Int) (a5 : (List dRange)) (a6 : (List dWrite)) (a7 : Bool) (a8 : ByteArray) (a9 : ByteArray) (a10 : Bool) (a11 : (List dVersion)) (a12 : (List dTxn)) (a13 : (List dTxn)) (a14 : Int) (a15 : Int) : Par (fun k : AV × St → Option Res => laws_FnExactRecordText_g [.agg [.int .i64 a0, .int .i64 a1, .int .i64 a2, .int .i64 a3, .int .i64 a4, .lst tRange a5, .lst tWrite a6, .bool a7, .str a8, .str a9, .bool a10, .lst tVersion a11, .lst tTxn a12, .lst tTxn a13, .int .i64 a14, .int .i64 a15]] [] (fun v s => k (v, s))) :=
  (laws_FnExactRecordText_p (a0, ((a1, (a2, (a3, (a4, (a5, (a6, (a7, a8))))))), (a9, (a10, (a11, (a12, (a13, (a14, a15))))))))).bind (H := fun (y : Bool) (k : AV × St → Option Res) => (fun (y : Bool) => k ((.bool y : AV), ([] : St))) y) (fun y => par_ret _)

end

end Go.VE
