/- Native programs of the functions, written by gen.py. -/

import Derived.Test.YtdcgbmpmiehemaaT0

namespace Go.VE

noncomputable section

set_option linter.unusedVariables false
set_option linter.unusedSimpArgs false
set_option maxRecDepth 100000


def spec_BaseNew_d  (k : (Int × Int) → Option Res) : Option Res :=
  k ((0 : Int), (1 : Int))

theorem spec_BaseNew_h : ∃ g : ((Int × Int) → Option Res) → Option Res, g = spec_BaseNew_d := ⟨_, rfl⟩
def spec_BaseNew_k : ((Int × Int) → Option Res) → Option Res := Classical.choose spec_BaseNew_h
theorem spec_BaseNew_e : spec_BaseNew_k = spec_BaseNew_d := Classical.choose_spec spec_BaseNew_h

theorem spec_BaseNew_p  : Par (spec_BaseNew_k ) := by
  rw [spec_BaseNew_e]
  unfold spec_BaseNew_d
  exact (par_ret _)

def spec_EngineNew_d  (k : (Int × Int) → Option Res) : Option Res :=
  spec_BaseNew_k  (fun y1 =>
    k (y1.1, y1.2))

theorem spec_EngineNew_h : ∃ g : ((Int × Int) → Option Res) → Option Res, g = spec_EngineNew_d := ⟨_, rfl⟩
def spec_EngineNew_k : ((Int × Int) → Option Res) → Option Res := Classical.choose spec_EngineNew_h
theorem spec_EngineNew_e : spec_EngineNew_k = spec_EngineNew_d := Classical.choose_spec spec_EngineNew_h

theorem spec_EngineNew_p  : Par (spec_EngineNew_k ) := by
  rw [spec_EngineNew_e]
  unfold spec_EngineNew_d
  exact ((spec_BaseNew_p ).bind fun y1 => (par_ret _))

def impl_BaseNew_d  (k : (Int × Int) → Option Res) : Option Res :=
  k ((0 : Int), (1 : Int))

theorem impl_BaseNew_h : ∃ g : ((Int × Int) → Option Res) → Option Res, g = impl_BaseNew_d := ⟨_, rfl⟩
def impl_BaseNew_k : ((Int × Int) → Option Res) → Option Res := Classical.choose impl_BaseNew_h
theorem impl_BaseNew_e : impl_BaseNew_k = impl_BaseNew_d := Classical.choose_spec impl_BaseNew_h

theorem impl_BaseNew_p  : Par (impl_BaseNew_k ) := by
  rw [impl_BaseNew_e]
  unfold impl_BaseNew_d
  exact (par_ret _)

def impl_EngineNew_d  (k : (Int × Int) → Option Res) : Option Res :=
  impl_BaseNew_k  (fun y1 =>
    k (y1.1, y1.2))

theorem impl_EngineNew_h : ∃ g : ((Int × Int) → Option Res) → Option Res, g = impl_EngineNew_d := ⟨_, rfl⟩
def impl_EngineNew_k : ((Int × Int) → Option Res) → Option Res := Classical.choose impl_EngineNew_h
theorem impl_EngineNew_e : impl_EngineNew_k = impl_EngineNew_d := Classical.choose_spec impl_EngineNew_h

theorem impl_EngineNew_p  : Par (impl_EngineNew_k ) := by
  rw [impl_EngineNew_e]
  unfold impl_EngineNew_d
  exact ((impl_BaseNew_p ).bind fun y1 => (par_ret _))

def laws_eqVersion_d (a0 : dVersion) (a1 : dVersion) (k : Bool → Option Res) : Option Res :=
  bif (!(strEq a0.1 a1.1)) then
    k false
  else
    bif (!(strEq a0.2.1 a1.2.1)) then
      k false
    else
      bif (!(a0.2.2.1 == a1.2.2.1)) then
        k false
      else
        bif (a0.2.2.2 != a1.2.2.2) then
          k false
        else
          k true

theorem laws_eqVersion_h : ∃ g : dVersion → dVersion → (Bool → Option Res) → Option Res, g = laws_eqVersion_d := ⟨_, rfl⟩
def laws_eqVersion_k : dVersion → dVersion → (Bool → Option Res) → Option Res := Classical.choose laws_eqVersion_h
theorem laws_eqVersion_e : laws_eqVersion_k = laws_eqVersion_d := Classical.choose_spec laws_eqVersion_h

theorem laws_eqVersion_p (a0 : dVersion) (a1 : dVersion) : Par (laws_eqVersion_k a0 a1) := by
  rw [laws_eqVersion_e]
  unfold laws_eqVersion_d
  exact (par_bif (par_ret _) (par_bif (par_ret _) (par_bif (par_ret _) (par_bif (par_ret _) (par_ret _)))))

def laws_eqVersionS_b0 (x : ((List dVersion) × (List dVersion) × Bool × Int)) (k : ((List dVersion) × (List dVersion) × Bool × Int) ⊕ (((List dVersion) × (List dVersion) × Bool × Int) ⊕ ((List dVersion) × (List dVersion) × Bool × Int)) → Option Res) : Option Res :=
    bif (decide (x.2.2.2 < (x.1.length : Int))) then
      if 0 ≤ x.2.2.2 ∧ x.2.2.2 < (x.1.length : Int) then
        if 0 ≤ x.2.2.2 ∧ x.2.2.2 < (x.2.1.length : Int) then
          laws_eqVersion_k (rd (Ty.zero tVersion) x.1 x.2.2.2) (rd (Ty.zero tVersion) x.2.1 x.2.2.2) (fun y3 =>
            bif (!y3) then
              k (.inr (.inl (x.1, x.2.1, false, x.2.2.2)))
            else
              k (.inl (x.1, x.2.1, x.2.2.1, (IntKind.wrap .i64 (x.2.2.2 + (1 : Int))))))
        else none
      else none
    else
      k (.inr (.inr (x.1, x.2.1, x.2.2.1, x.2.2.2)))

theorem laws_eqVersionS_bp0 (x : ((List dVersion) × (List dVersion) × Bool × Int)) : Par (laws_eqVersionS_b0 x) := by
  unfold laws_eqVersionS_b0
  exact (par_bif (par_ite (par_ite ((laws_eqVersion_p (rd (Ty.zero tVersion) x.1 x.2.2.2) (rd (Ty.zero tVersion) x.2.1 x.2.2.2)).bind fun y3 => (par_bif (par_ret _) (par_ret _))) par_none) par_none) (par_ret _))

def laws_eqVersionS_d (a0 : (List dVersion)) (a1 : (List dVersion)) (k : Bool → Option Res) : Option Res :=
  bif ((a0.length : Int) != (a1.length : Int)) then
    k false
  else
    loopK laws_eqVersionS_b0 Fuel (a0, a1, false, (0 : Int)) (Sum.elim (fun z1 =>
      k z1.2.2.1) (fun _ =>
      k true))

theorem laws_eqVersionS_h : ∃ g : (List dVersion) → (List dVersion) → (Bool → Option Res) → Option Res, g = laws_eqVersionS_d := ⟨_, rfl⟩
def laws_eqVersionS_k : (List dVersion) → (List dVersion) → (Bool → Option Res) → Option Res := Classical.choose laws_eqVersionS_h
theorem laws_eqVersionS_e : laws_eqVersionS_k = laws_eqVersionS_d := Classical.choose_spec laws_eqVersionS_h

theorem laws_eqVersionS_p (a0 : (List dVersion)) (a1 : (List dVersion)) : Par (laws_eqVersionS_k a0 a1) := by
  rw [laws_eqVersionS_e]
  unfold laws_eqVersionS_d
  exact (par_bif (par_ret _) ((par_loop laws_eqVersionS_bp0 Fuel (a0, a1, false, (0 : Int))).bind2 (fun z1 => (par_ret _)) (fun z2 => (par_ret _))))

def laws_eqRange_d (a0 : dRange) (a1 : dRange) (k : Bool → Option Res) : Option Res :=
  bif (!(strEq a0.1 a1.1)) then
    k false
  else
    bif (!(strEq a0.2 a1.2)) then
      k false
    else
      k true

theorem laws_eqRange_h : ∃ g : dRange → dRange → (Bool → Option Res) → Option Res, g = laws_eqRange_d := ⟨_, rfl⟩
def laws_eqRange_k : dRange → dRange → (Bool → Option Res) → Option Res := Classical.choose laws_eqRange_h
theorem laws_eqRange_e : laws_eqRange_k = laws_eqRange_d := Classical.choose_spec laws_eqRange_h

theorem laws_eqRange_p (a0 : dRange) (a1 : dRange) : Par (laws_eqRange_k a0 a1) := by
  rw [laws_eqRange_e]
  unfold laws_eqRange_d
  exact (par_bif (par_ret _) (par_bif (par_ret _) (par_ret _)))

def laws_eqRangeS_b0 (x : ((List dRange) × (List dRange) × Bool × Int)) (k : ((List dRange) × (List dRange) × Bool × Int) ⊕ (((List dRange) × (List dRange) × Bool × Int) ⊕ ((List dRange) × (List dRange) × Bool × Int)) → Option Res) : Option Res :=
    bif (decide (x.2.2.2 < (x.1.length : Int))) then
      if 0 ≤ x.2.2.2 ∧ x.2.2.2 < (x.1.length : Int) then
        if 0 ≤ x.2.2.2 ∧ x.2.2.2 < (x.2.1.length : Int) then
          laws_eqRange_k (rd (Ty.zero tRange) x.1 x.2.2.2) (rd (Ty.zero tRange) x.2.1 x.2.2.2) (fun y3 =>
            bif (!y3) then
              k (.inr (.inl (x.1, x.2.1, false, x.2.2.2)))
            else
              k (.inl (x.1, x.2.1, x.2.2.1, (IntKind.wrap .i64 (x.2.2.2 + (1 : Int))))))
        else none
      else none
    else
      k (.inr (.inr (x.1, x.2.1, x.2.2.1, x.2.2.2)))

theorem laws_eqRangeS_bp0 (x : ((List dRange) × (List dRange) × Bool × Int)) : Par (laws_eqRangeS_b0 x) := by
  unfold laws_eqRangeS_b0
  exact (par_bif (par_ite (par_ite ((laws_eqRange_p (rd (Ty.zero tRange) x.1 x.2.2.2) (rd (Ty.zero tRange) x.2.1 x.2.2.2)).bind fun y3 => (par_bif (par_ret _) (par_ret _))) par_none) par_none) (par_ret _))

def laws_eqRangeS_d (a0 : (List dRange)) (a1 : (List dRange)) (k : Bool → Option Res) : Option Res :=
  bif ((a0.length : Int) != (a1.length : Int)) then
    k false
  else
    loopK laws_eqRangeS_b0 Fuel (a0, a1, false, (0 : Int)) (Sum.elim (fun z1 =>
      k z1.2.2.1) (fun _ =>
      k true))

theorem laws_eqRangeS_h : ∃ g : (List dRange) → (List dRange) → (Bool → Option Res) → Option Res, g = laws_eqRangeS_d := ⟨_, rfl⟩
def laws_eqRangeS_k : (List dRange) → (List dRange) → (Bool → Option Res) → Option Res := Classical.choose laws_eqRangeS_h
theorem laws_eqRangeS_e : laws_eqRangeS_k = laws_eqRangeS_d := Classical.choose_spec laws_eqRangeS_h

theorem laws_eqRangeS_p (a0 : (List dRange)) (a1 : (List dRange)) : Par (laws_eqRangeS_k a0 a1) := by
  rw [laws_eqRangeS_e]
  unfold laws_eqRangeS_d
  exact (par_bif (par_ret _) ((par_loop laws_eqRangeS_bp0 Fuel (a0, a1, false, (0 : Int))).bind2 (fun z1 => (par_ret _)) (fun z2 => (par_ret _))))

def laws_eqWrite_d (a0 : dWrite) (a1 : dWrite) (k : Bool → Option Res) : Option Res :=
  bif (!(strEq a0.1 a1.1)) then
    k false
  else
    bif (!(strEq a0.2.1 a1.2.1)) then
      k false
    else
      bif (!(a0.2.2 == a1.2.2)) then
        k false
      else
        k true

theorem laws_eqWrite_h : ∃ g : dWrite → dWrite → (Bool → Option Res) → Option Res, g = laws_eqWrite_d := ⟨_, rfl⟩
def laws_eqWrite_k : dWrite → dWrite → (Bool → Option Res) → Option Res := Classical.choose laws_eqWrite_h
theorem laws_eqWrite_e : laws_eqWrite_k = laws_eqWrite_d := Classical.choose_spec laws_eqWrite_h

theorem laws_eqWrite_p (a0 : dWrite) (a1 : dWrite) : Par (laws_eqWrite_k a0 a1) := by
  rw [laws_eqWrite_e]
  unfold laws_eqWrite_d
  exact (par_bif (par_ret _) (par_bif (par_ret _) (par_bif (par_ret _) (par_ret _))))

def laws_eqWriteS_b0 (x : ((List dWrite) × (List dWrite) × Bool × Int)) (k : ((List dWrite) × (List dWrite) × Bool × Int) ⊕ (((List dWrite) × (List dWrite) × Bool × Int) ⊕ ((List dWrite) × (List dWrite) × Bool × Int)) → Option Res) : Option Res :=
    bif (decide (x.2.2.2 < (x.1.length : Int))) then
      if 0 ≤ x.2.2.2 ∧ x.2.2.2 < (x.1.length : Int) then
        if 0 ≤ x.2.2.2 ∧ x.2.2.2 < (x.2.1.length : Int) then
          laws_eqWrite_k (rd (Ty.zero tWrite) x.1 x.2.2.2) (rd (Ty.zero tWrite) x.2.1 x.2.2.2) (fun y3 =>
            bif (!y3) then
              k (.inr (.inl (x.1, x.2.1, false, x.2.2.2)))
            else
              k (.inl (x.1, x.2.1, x.2.2.1, (IntKind.wrap .i64 (x.2.2.2 + (1 : Int))))))
        else none
      else none
    else
      k (.inr (.inr (x.1, x.2.1, x.2.2.1, x.2.2.2)))

theorem laws_eqWriteS_bp0 (x : ((List dWrite) × (List dWrite) × Bool × Int)) : Par (laws_eqWriteS_b0 x) := by
  unfold laws_eqWriteS_b0
  exact (par_bif (par_ite (par_ite ((laws_eqWrite_p (rd (Ty.zero tWrite) x.1 x.2.2.2) (rd (Ty.zero tWrite) x.2.1 x.2.2.2)).bind fun y3 => (par_bif (par_ret _) (par_ret _))) par_none) par_none) (par_ret _))

def laws_eqWriteS_d (a0 : (List dWrite)) (a1 : (List dWrite)) (k : Bool → Option Res) : Option Res :=
  bif ((a0.length : Int) != (a1.length : Int)) then
    k false
  else
    loopK laws_eqWriteS_b0 Fuel (a0, a1, false, (0 : Int)) (Sum.elim (fun z1 =>
      k z1.2.2.1) (fun _ =>
      k true))

theorem laws_eqWriteS_h : ∃ g : (List dWrite) → (List dWrite) → (Bool → Option Res) → Option Res, g = laws_eqWriteS_d := ⟨_, rfl⟩
def laws_eqWriteS_k : (List dWrite) → (List dWrite) → (Bool → Option Res) → Option Res := Classical.choose laws_eqWriteS_h
theorem laws_eqWriteS_e : laws_eqWriteS_k = laws_eqWriteS_d := Classical.choose_spec laws_eqWriteS_h

theorem laws_eqWriteS_p (a0 : (List dWrite)) (a1 : (List dWrite)) : Par (laws_eqWriteS_k a0 a1) := by
  rw [laws_eqWriteS_e]
  unfold laws_eqWriteS_d
  exact (par_bif (par_ret _) ((par_loop laws_eqWriteS_bp0 Fuel (a0, a1, false, (0 : Int))).bind2 (fun z1 => (par_ret _)) (fun z2 => (par_ret _))))

def laws_eqTxn_d (a0 : dTxn) (a1 : dTxn) (k : Bool → Option Res) : Option Res :=
  bif (a0.1 != a1.1) then
    k false
  else
    bif (a0.2.1 != a1.2.1) then
      k false
    else
      bif (a0.2.2.1 != a1.2.2.1) then
        k false
      else
        bif (a0.2.2.2.1 != a1.2.2.2.1) then
          k false
        else
          laws_eqRangeS_k a0.2.2.2.2.1 a1.2.2.2.2.1 (fun y1 =>
            bif (!y1) then
              k false
            else
              laws_eqWriteS_k a0.2.2.2.2.2.1 a1.2.2.2.2.2.1 (fun y2 =>
                bif (!y2) then
                  k false
                else
                  bif (!(a0.2.2.2.2.2.2.1 == a1.2.2.2.2.2.2.1)) then
                    k false
                  else
                    bif (!(strEq a0.2.2.2.2.2.2.2 a1.2.2.2.2.2.2.2)) then
                      k false
                    else
                      k true))

theorem laws_eqTxn_h : ∃ g : dTxn → dTxn → (Bool → Option Res) → Option Res, g = laws_eqTxn_d := ⟨_, rfl⟩
def laws_eqTxn_k : dTxn → dTxn → (Bool → Option Res) → Option Res := Classical.choose laws_eqTxn_h
theorem laws_eqTxn_e : laws_eqTxn_k = laws_eqTxn_d := Classical.choose_spec laws_eqTxn_h

theorem laws_eqTxn_p (a0 : dTxn) (a1 : dTxn) : Par (laws_eqTxn_k a0 a1) := by
  rw [laws_eqTxn_e]
  unfold laws_eqTxn_d
  exact (par_bif (par_ret _) (par_bif (par_ret _) (par_bif (par_ret _) (par_bif (par_ret _) ((laws_eqRangeS_p a0.2.2.2.2.1 a1.2.2.2.2.1).bind fun y1 => (par_bif (par_ret _) ((laws_eqWriteS_p a0.2.2.2.2.2.1 a1.2.2.2.2.2.1).bind fun y2 => (par_bif (par_ret _) (par_bif (par_ret _) (par_bif (par_ret _) (par_ret _)))))))))))

def laws_eqTxnS_b0 (x : ((List dTxn) × (List dTxn) × Bool × Int)) (k : ((List dTxn) × (List dTxn) × Bool × Int) ⊕ (((List dTxn) × (List dTxn) × Bool × Int) ⊕ ((List dTxn) × (List dTxn) × Bool × Int)) → Option Res) : Option Res :=
    bif (decide (x.2.2.2 < (x.1.length : Int))) then
      if 0 ≤ x.2.2.2 ∧ x.2.2.2 < (x.1.length : Int) then
        if 0 ≤ x.2.2.2 ∧ x.2.2.2 < (x.2.1.length : Int) then
          laws_eqTxn_k (rd (Ty.zero tTxn) x.1 x.2.2.2) (rd (Ty.zero tTxn) x.2.1 x.2.2.2) (fun y3 =>
            bif (!y3) then
              k (.inr (.inl (x.1, x.2.1, false, x.2.2.2)))
            else
              k (.inl (x.1, x.2.1, x.2.2.1, (IntKind.wrap .i64 (x.2.2.2 + (1 : Int))))))
        else none
      else none
    else
      k (.inr (.inr (x.1, x.2.1, x.2.2.1, x.2.2.2)))

theorem laws_eqTxnS_bp0 (x : ((List dTxn) × (List dTxn) × Bool × Int)) : Par (laws_eqTxnS_b0 x) := by
  unfold laws_eqTxnS_b0
  exact (par_bif (par_ite (par_ite ((laws_eqTxn_p (rd (Ty.zero tTxn) x.1 x.2.2.2) (rd (Ty.zero tTxn) x.2.1 x.2.2.2)).bind fun y3 => (par_bif (par_ret _) (par_ret _))) par_none) par_none) (par_ret _))

def laws_eqTxnS_d (a0 : (List dTxn)) (a1 : (List dTxn)) (k : Bool → Option Res) : Option Res :=
  bif ((a0.length : Int) != (a1.length : Int)) then
    k false
  else
    loopK laws_eqTxnS_b0 Fuel (a0, a1, false, (0 : Int)) (Sum.elim (fun z1 =>
      k z1.2.2.1) (fun _ =>
      k true))

theorem laws_eqTxnS_h : ∃ g : (List dTxn) → (List dTxn) → (Bool → Option Res) → Option Res, g = laws_eqTxnS_d := ⟨_, rfl⟩
def laws_eqTxnS_k : (List dTxn) → (List dTxn) → (Bool → Option Res) → Option Res := Classical.choose laws_eqTxnS_h
theorem laws_eqTxnS_e : laws_eqTxnS_k = laws_eqTxnS_d := Classical.choose_spec laws_eqTxnS_h

theorem laws_eqTxnS_p (a0 : (List dTxn)) (a1 : (List dTxn)) : Par (laws_eqTxnS_k a0 a1) := by
  rw [laws_eqTxnS_e]
  unfold laws_eqTxnS_d
  exact (par_bif (par_ret _) ((par_loop laws_eqTxnS_bp0 Fuel (a0, a1, false, (0 : Int))).bind2 (fun z1 => (par_ret _)) (fun z2 => (par_ret _))))

def laws_eqBase_d (a0 : dBase) (a1 : dBase) (k : Bool → Option Res) : Option Res :=
  laws_eqVersionS_k a0.1 a1.1 (fun y1 =>
    bif (!y1) then
      k false
    else
      laws_eqTxnS_k a0.2.1 a1.2.1 (fun y2 =>
        bif (!y2) then
          k false
        else
          laws_eqTxnS_k a0.2.2.1 a1.2.2.1 (fun y3 =>
            bif (!y3) then
              k false
            else
              bif (a0.2.2.2.1 != a1.2.2.2.1) then
                k false
              else
                bif (a0.2.2.2.2 != a1.2.2.2.2) then
                  k false
                else
                  k true)))

theorem laws_eqBase_h : ∃ g : dBase → dBase → (Bool → Option Res) → Option Res, g = laws_eqBase_d := ⟨_, rfl⟩
def laws_eqBase_k : dBase → dBase → (Bool → Option Res) → Option Res := Classical.choose laws_eqBase_h
theorem laws_eqBase_e : laws_eqBase_k = laws_eqBase_d := Classical.choose_spec laws_eqBase_h

theorem laws_eqBase_p (a0 : dBase) (a1 : dBase) : Par (laws_eqBase_k a0 a1) := by
  rw [laws_eqBase_e]
  unfold laws_eqBase_d
  exact ((laws_eqVersionS_p a0.1 a1.1).bind fun y1 => (par_bif (par_ret _) ((laws_eqTxnS_p a0.2.1 a1.2.1).bind fun y2 => (par_bif (par_ret _) ((laws_eqTxnS_p a0.2.2.1 a1.2.2.1).bind fun y3 => (par_bif (par_ret _) (par_bif (par_ret _) (par_bif (par_ret _) (par_ret _)))))))))

def laws_eqEngine_d (a0 : dEngine) (a1 : dEngine) (k : Bool → Option Res) : Option Res :=
  laws_eqBase_k a0.1 a1.1 (fun y1 =>
    bif (!y1) then
      k false
    else
      laws_eqTxnS_k a0.2 a1.2 (fun y2 =>
        bif (!y2) then
          k false
        else
          k true))

theorem laws_eqEngine_h : ∃ g : dEngine → dEngine → (Bool → Option Res) → Option Res, g = laws_eqEngine_d := ⟨_, rfl⟩
def laws_eqEngine_k : dEngine → dEngine → (Bool → Option Res) → Option Res := Classical.choose laws_eqEngine_h
theorem laws_eqEngine_e : laws_eqEngine_k = laws_eqEngine_d := Classical.choose_spec laws_eqEngine_h

theorem laws_eqEngine_p (a0 : dEngine) (a1 : dEngine) : Par (laws_eqEngine_k a0 a1) := by
  rw [laws_eqEngine_e]
  unfold laws_eqEngine_d
  exact ((laws_eqBase_p a0.1 a1.1).bind fun y1 => (par_bif (par_ret _) ((laws_eqTxnS_p a0.2 a1.2).bind fun y2 => (par_bif (par_ret _) (par_ret _)))))

def laws_markText_b0 (x : (Int × ByteArray)) (k : (Int × ByteArray) ⊕ (Int × ByteArray) → Option Res) : Option Res :=
    bif (decide (x.1 > (0 : Int))) then
      if (bytesOf [(IntKind.wrap .u8 (IntKind.wrap .i64 ((48 : Int) + (x.1.tmod (10 : Int)))))]).size + x.2.size ≤ 1099511627776 then
        k (.inl ((IntKind.wrap .i64 (x.1.tdiv (10 : Int))), ((bytesOf [(IntKind.wrap .u8 (IntKind.wrap .i64 ((48 : Int) + (x.1.tmod (10 : Int)))))]) ++ x.2)))
      else none
    else
      k (.inr (x.1, x.2))

theorem laws_markText_bp0 (x : (Int × ByteArray)) : Par (laws_markText_b0 x) := by
  unfold laws_markText_b0
  exact (par_bif (par_ite (par_ret _) par_none) (par_ret _))

def laws_markText_d (a0 : Int) (k : ByteArray → Option Res) : Option Res :=
  bif (decide (a0 ≤ (0 : Int))) then
    k (⟨#[109, 48]⟩ : ByteArray)
  else
    loopK laws_markText_b0 Fuel (a0, (⟨#[]⟩ : ByteArray)) (fun z1 =>
      if (⟨#[109]⟩ : ByteArray).size + z1.2.size ≤ 1099511627776 then
        k ((⟨#[109]⟩ : ByteArray) ++ z1.2)
      else none)

theorem laws_markText_h : ∃ g : Int → (ByteArray → Option Res) → Option Res, g = laws_markText_d := ⟨_, rfl⟩
def laws_markText_k : Int → (ByteArray → Option Res) → Option Res := Classical.choose laws_markText_h
theorem laws_markText_e : laws_markText_k = laws_markText_d := Classical.choose_spec laws_markText_h

theorem laws_markText_p (a0 : Int) : Par (laws_markText_k a0) := by
  rw [laws_markText_e]
  unfold laws_markText_d
  exact (par_bif (par_ret _) ((par_loop laws_markText_bp0 Fuel (a0, (⟨#[]⟩ : ByteArray))).bind fun z1 => (par_ite (par_ret _) par_none)))

def laws_markVersionS_vn_b0 (x : (Int × Int)) (k : (Int × Int) ⊕ (Int × Int) → Option Res) : Option Res :=
    bif (decide (x.2 < (0 : Int))) then
      laws_markText_k x.1 (fun _ =>
        none)
    else
      k (.inr (x.1, x.2))

theorem laws_markVersionS_vn_bp0 (x : (Int × Int)) : Par (laws_markVersionS_vn_b0 x) := by
  unfold laws_markVersionS_vn_b0
  exact (par_bif ((laws_markText_p x.1).bind fun y2 => par_none) (par_ret _))

def laws_markVersionS_vn_d (a0 : Int) (k : Int → Option Res) : Option Res :=
  loopK laws_markVersionS_vn_b0 Fuel (a0, (0 : Int)) (fun z1 =>
    k z1.1)

theorem laws_markVersionS_vn_h : ∃ g : Int → (Int → Option Res) → Option Res, g = laws_markVersionS_vn_d := ⟨_, rfl⟩
def laws_markVersionS_vn_k : Int → (Int → Option Res) → Option Res := Classical.choose laws_markVersionS_vn_h
theorem laws_markVersionS_vn_e : laws_markVersionS_vn_k = laws_markVersionS_vn_d := Classical.choose_spec laws_markVersionS_vn_h

theorem laws_markVersionS_vn_p (a0 : Int) : Par (laws_markVersionS_vn_k a0) := by
  rw [laws_markVersionS_vn_e]
  unfold laws_markVersionS_vn_d
  exact ((par_loop laws_markVersionS_vn_bp0 Fuel (a0, (0 : Int))).bind fun z1 => (par_ret _))

def laws_markTxnS_vn_b0 (x : (Int × Int)) (k : (Int × Int) ⊕ (Int × Int) → Option Res) : Option Res :=
    bif (decide (x.2 < (0 : Int))) then
      none
    else
      k (.inr (x.1, x.2))

theorem laws_markTxnS_vn_bp0 (x : (Int × Int)) : Par (laws_markTxnS_vn_b0 x) := by
  unfold laws_markTxnS_vn_b0
  exact (par_bif par_none (par_ret _))

def laws_markTxnS_vn_d (a0 : Int) (k : Int → Option Res) : Option Res :=
  loopK laws_markTxnS_vn_b0 Fuel (a0, (0 : Int)) (fun z1 =>
    k z1.1)

theorem laws_markTxnS_vn_h : ∃ g : Int → (Int → Option Res) → Option Res, g = laws_markTxnS_vn_d := ⟨_, rfl⟩
def laws_markTxnS_vn_k : Int → (Int → Option Res) → Option Res := Classical.choose laws_markTxnS_vn_h
theorem laws_markTxnS_vn_e : laws_markTxnS_vn_k = laws_markTxnS_vn_d := Classical.choose_spec laws_markTxnS_vn_h

theorem laws_markTxnS_vn_p (a0 : Int) : Par (laws_markTxnS_vn_k a0) := by
  rw [laws_markTxnS_vn_e]
  unfold laws_markTxnS_vn_d
  exact ((par_loop laws_markTxnS_vn_bp0 Fuel (a0, (0 : Int))).bind fun z1 => (par_ret _))

def laws_markBase_va_d (a0 : Int) (a1 : Int) (a2 : Int) (k : Int → Option Res) : Option Res :=
  laws_markVersionS_vn_k a2 (fun y1 =>
    laws_markTxnS_vn_k y1 (fun y2 =>
      laws_markTxnS_vn_k y2 (fun y3 =>
        k y3)))

theorem laws_markBase_va_h : ∃ g : Int → Int → Int → (Int → Option Res) → Option Res, g = laws_markBase_va_d := ⟨_, rfl⟩
def laws_markBase_va_k : Int → Int → Int → (Int → Option Res) → Option Res := Classical.choose laws_markBase_va_h
theorem laws_markBase_va_e : laws_markBase_va_k = laws_markBase_va_d := Classical.choose_spec laws_markBase_va_h

theorem laws_markBase_va_p (a0 : Int) (a1 : Int) (a2 : Int) : Par (laws_markBase_va_k a0 a1 a2) := by
  rw [laws_markBase_va_e]
  unfold laws_markBase_va_d
  exact ((laws_markVersionS_vn_p a2).bind fun y1 => ((laws_markTxnS_vn_p y1).bind fun y2 => ((laws_markTxnS_vn_p y2).bind fun y3 => (par_ret _))))

def laws_markEngine_va_d (a0 : Int) (a1 : Int) (a2 : Int) (k : Int → Option Res) : Option Res :=
  laws_markBase_va_k a0 a1 a2 (fun y1 =>
    laws_markTxnS_vn_k y1 (fun y2 =>
      k y2))

theorem laws_markEngine_va_h : ∃ g : Int → Int → Int → (Int → Option Res) → Option Res, g = laws_markEngine_va_d := ⟨_, rfl⟩
def laws_markEngine_va_k : Int → Int → Int → (Int → Option Res) → Option Res := Classical.choose laws_markEngine_va_h
theorem laws_markEngine_va_e : laws_markEngine_va_k = laws_markEngine_va_d := Classical.choose_spec laws_markEngine_va_h

theorem laws_markEngine_va_p (a0 : Int) (a1 : Int) (a2 : Int) : Par (laws_markEngine_va_k a0 a1 a2) := by
  rw [laws_markEngine_va_e]
  unfold laws_markEngine_va_d
  exact ((laws_markBase_va_p a0 a1 a2).bind fun y1 => ((laws_markTxnS_vn_p y1).bind fun y2 => (par_ret _)))

def laws_heldVersionS_b0 (x : ((List dVersion) × Int × Int × Int)) (k : ((List dVersion) × Int × Int × Int) ⊕ (((List dVersion) × Int × Int × Int) ⊕ ((List dVersion) × Int × Int × Int)) → Option Res) : Option Res :=
    bif (decide (x.2.2.2 < (x.1.length : Int))) then
      if 0 ≤ x.2.2.2 ∧ x.2.2.2 < (x.1.length : Int) then
        laws_markText_k x.2.1 (fun y3 =>
          bif (!(strEq ((rd (Ty.zero tVersion) x.1 x.2.2.2).1) y3)) then
            k (.inr (.inl (x.1, x.2.1, (-1 : Int), x.2.2.2)))
          else
            if 0 ≤ x.2.2.2 ∧ x.2.2.2 < (x.1.length : Int) then
              laws_markText_k (IntKind.wrap .i64 (x.2.1 + (1 : Int))) (fun y4 =>
                bif (!(strEq ((rd (Ty.zero tVersion) x.1 x.2.2.2).2.1) y4)) then
                  k (.inr (.inl (x.1, (IntKind.wrap .i64 (x.2.1 + (1 : Int))), (-1 : Int), x.2.2.2)))
                else
                  if 0 ≤ x.2.2.2 ∧ x.2.2.2 < (x.1.length : Int) then
                    bif (!((rd (Ty.zero tVersion) x.1 x.2.2.2).2.2.1 == (((IntKind.wrap .i64 ((IntKind.wrap .i64 (x.2.1 + (1 : Int))) + (1 : Int))).tmod (3 : Int)) == (0 : Int)))) then
                      k (.inr (.inl (x.1, (IntKind.wrap .i64 ((IntKind.wrap .i64 (x.2.1 + (1 : Int))) + (1 : Int))), (-1 : Int), x.2.2.2)))
                    else
                      if 0 ≤ x.2.2.2 ∧ x.2.2.2 < (x.1.length : Int) then
                        bif ((rd (Ty.zero tVersion) x.1 x.2.2.2).2.2.2 != (IntKind.wrap .i64 ((IntKind.wrap .i64 ((IntKind.wrap .i64 (x.2.1 + (1 : Int))) + (1 : Int))) + (1 : Int)))) then
                          k (.inr (.inl (x.1, (IntKind.wrap .i64 ((IntKind.wrap .i64 ((IntKind.wrap .i64 (x.2.1 + (1 : Int))) + (1 : Int))) + (1 : Int))), (-1 : Int), x.2.2.2)))
                        else
                          k (.inl (x.1, (IntKind.wrap .i64 ((IntKind.wrap .i64 ((IntKind.wrap .i64 ((IntKind.wrap .i64 (x.2.1 + (1 : Int))) + (1 : Int))) + (1 : Int))) + (1 : Int))), x.2.2.1, (IntKind.wrap .i64 (x.2.2.2 + (1 : Int)))))
                      else none
                  else none)
            else none)
      else none
    else
      k (.inr (.inr (x.1, x.2.1, x.2.2.1, x.2.2.2)))

theorem laws_heldVersionS_bp0 (x : ((List dVersion) × Int × Int × Int)) : Par (laws_heldVersionS_b0 x) := by
  unfold laws_heldVersionS_b0
  exact (par_bif (par_ite ((laws_markText_p x.2.1).bind fun y3 => (par_bif (par_ret _) (par_ite ((laws_markText_p (IntKind.wrap .i64 (x.2.1 + (1 : Int)))).bind fun y4 => (par_bif (par_ret _) (par_ite (par_bif (par_ret _) (par_ite (par_bif (par_ret _) (par_ret _)) par_none)) par_none))) par_none))) par_none) (par_ret _))

def laws_heldVersionS_d (a0 : (List dVersion)) (a1 : Int) (k : Int → Option Res) : Option Res :=
  loopK laws_heldVersionS_b0 Fuel (a0, a1, (0 : Int), (0 : Int)) (Sum.elim (fun z1 =>
    k z1.2.2.1) (fun z2 =>
    k z2.2.1))

theorem laws_heldVersionS_h : ∃ g : (List dVersion) → Int → (Int → Option Res) → Option Res, g = laws_heldVersionS_d := ⟨_, rfl⟩
def laws_heldVersionS_k : (List dVersion) → Int → (Int → Option Res) → Option Res := Classical.choose laws_heldVersionS_h
theorem laws_heldVersionS_e : laws_heldVersionS_k = laws_heldVersionS_d := Classical.choose_spec laws_heldVersionS_h

theorem laws_heldVersionS_p (a0 : (List dVersion)) (a1 : Int) : Par (laws_heldVersionS_k a0 a1) := by
  rw [laws_heldVersionS_e]
  unfold laws_heldVersionS_d
  exact ((par_loop laws_heldVersionS_bp0 Fuel (a0, a1, (0 : Int), (0 : Int))).bind2 (fun z1 => (par_ret _)) (fun z2 => (par_ret _)))

def laws_heldRangeS_b0 (x : ((List dRange) × Int × Int × Int)) (k : ((List dRange) × Int × Int × Int) ⊕ (((List dRange) × Int × Int × Int) ⊕ ((List dRange) × Int × Int × Int)) → Option Res) : Option Res :=
    bif (decide (x.2.2.2 < (x.1.length : Int))) then
      if 0 ≤ x.2.2.2 ∧ x.2.2.2 < (x.1.length : Int) then
        laws_markText_k x.2.1 (fun y3 =>
          bif (!(strEq ((rd (Ty.zero tRange) x.1 x.2.2.2).1) y3)) then
            k (.inr (.inl (x.1, x.2.1, (-1 : Int), x.2.2.2)))
          else
            if 0 ≤ x.2.2.2 ∧ x.2.2.2 < (x.1.length : Int) then
              laws_markText_k (IntKind.wrap .i64 (x.2.1 + (1 : Int))) (fun y4 =>
                bif (!(strEq ((rd (Ty.zero tRange) x.1 x.2.2.2).2) y4)) then
                  k (.inr (.inl (x.1, (IntKind.wrap .i64 (x.2.1 + (1 : Int))), (-1 : Int), x.2.2.2)))
                else
                  k (.inl (x.1, (IntKind.wrap .i64 ((IntKind.wrap .i64 (x.2.1 + (1 : Int))) + (1 : Int))), x.2.2.1, (IntKind.wrap .i64 (x.2.2.2 + (1 : Int))))))
            else none)
      else none
    else
      k (.inr (.inr (x.1, x.2.1, x.2.2.1, x.2.2.2)))

theorem laws_heldRangeS_bp0 (x : ((List dRange) × Int × Int × Int)) : Par (laws_heldRangeS_b0 x) := by
  unfold laws_heldRangeS_b0
  exact (par_bif (par_ite ((laws_markText_p x.2.1).bind fun y3 => (par_bif (par_ret _) (par_ite ((laws_markText_p (IntKind.wrap .i64 (x.2.1 + (1 : Int)))).bind fun y4 => (par_bif (par_ret _) (par_ret _))) par_none))) par_none) (par_ret _))

def laws_heldRangeS_d (a0 : (List dRange)) (a1 : Int) (k : Int → Option Res) : Option Res :=
  loopK laws_heldRangeS_b0 Fuel (a0, a1, (0 : Int), (0 : Int)) (Sum.elim (fun z1 =>
    k z1.2.2.1) (fun z2 =>
    k z2.2.1))

theorem laws_heldRangeS_h : ∃ g : (List dRange) → Int → (Int → Option Res) → Option Res, g = laws_heldRangeS_d := ⟨_, rfl⟩
def laws_heldRangeS_k : (List dRange) → Int → (Int → Option Res) → Option Res := Classical.choose laws_heldRangeS_h
theorem laws_heldRangeS_e : laws_heldRangeS_k = laws_heldRangeS_d := Classical.choose_spec laws_heldRangeS_h

theorem laws_heldRangeS_p (a0 : (List dRange)) (a1 : Int) : Par (laws_heldRangeS_k a0 a1) := by
  rw [laws_heldRangeS_e]
  unfold laws_heldRangeS_d
  exact ((par_loop laws_heldRangeS_bp0 Fuel (a0, a1, (0 : Int), (0 : Int))).bind2 (fun z1 => (par_ret _)) (fun z2 => (par_ret _)))

def laws_heldWriteS_b0 (x : ((List dWrite) × Int × Int × Int)) (k : ((List dWrite) × Int × Int × Int) ⊕ (((List dWrite) × Int × Int × Int) ⊕ ((List dWrite) × Int × Int × Int)) → Option Res) : Option Res :=
    bif (decide (x.2.2.2 < (x.1.length : Int))) then
      if 0 ≤ x.2.2.2 ∧ x.2.2.2 < (x.1.length : Int) then
        laws_markText_k x.2.1 (fun y3 =>
          bif (!(strEq ((rd (Ty.zero tWrite) x.1 x.2.2.2).1) y3)) then
            k (.inr (.inl (x.1, x.2.1, (-1 : Int), x.2.2.2)))
          else
            if 0 ≤ x.2.2.2 ∧ x.2.2.2 < (x.1.length : Int) then
              laws_markText_k (IntKind.wrap .i64 (x.2.1 + (1 : Int))) (fun y4 =>
                bif (!(strEq ((rd (Ty.zero tWrite) x.1 x.2.2.2).2.1) y4)) then
                  k (.inr (.inl (x.1, (IntKind.wrap .i64 (x.2.1 + (1 : Int))), (-1 : Int), x.2.2.2)))
                else
                  if 0 ≤ x.2.2.2 ∧ x.2.2.2 < (x.1.length : Int) then
                    bif (!((rd (Ty.zero tWrite) x.1 x.2.2.2).2.2 == (((IntKind.wrap .i64 ((IntKind.wrap .i64 (x.2.1 + (1 : Int))) + (1 : Int))).tmod (3 : Int)) == (0 : Int)))) then
                      k (.inr (.inl (x.1, (IntKind.wrap .i64 ((IntKind.wrap .i64 (x.2.1 + (1 : Int))) + (1 : Int))), (-1 : Int), x.2.2.2)))
                    else
                      k (.inl (x.1, (IntKind.wrap .i64 ((IntKind.wrap .i64 ((IntKind.wrap .i64 (x.2.1 + (1 : Int))) + (1 : Int))) + (1 : Int))), x.2.2.1, (IntKind.wrap .i64 (x.2.2.2 + (1 : Int)))))
                  else none)
            else none)
      else none
    else
      k (.inr (.inr (x.1, x.2.1, x.2.2.1, x.2.2.2)))

theorem laws_heldWriteS_bp0 (x : ((List dWrite) × Int × Int × Int)) : Par (laws_heldWriteS_b0 x) := by
  unfold laws_heldWriteS_b0
  exact (par_bif (par_ite ((laws_markText_p x.2.1).bind fun y3 => (par_bif (par_ret _) (par_ite ((laws_markText_p (IntKind.wrap .i64 (x.2.1 + (1 : Int)))).bind fun y4 => (par_bif (par_ret _) (par_ite (par_bif (par_ret _) (par_ret _)) par_none))) par_none))) par_none) (par_ret _))

def laws_heldWriteS_d (a0 : (List dWrite)) (a1 : Int) (k : Int → Option Res) : Option Res :=
  loopK laws_heldWriteS_b0 Fuel (a0, a1, (0 : Int), (0 : Int)) (Sum.elim (fun z1 =>
    k z1.2.2.1) (fun z2 =>
    k z2.2.1))

theorem laws_heldWriteS_h : ∃ g : (List dWrite) → Int → (Int → Option Res) → Option Res, g = laws_heldWriteS_d := ⟨_, rfl⟩
def laws_heldWriteS_k : (List dWrite) → Int → (Int → Option Res) → Option Res := Classical.choose laws_heldWriteS_h
theorem laws_heldWriteS_e : laws_heldWriteS_k = laws_heldWriteS_d := Classical.choose_spec laws_heldWriteS_h

theorem laws_heldWriteS_p (a0 : (List dWrite)) (a1 : Int) : Par (laws_heldWriteS_k a0 a1) := by
  rw [laws_heldWriteS_e]
  unfold laws_heldWriteS_d
  exact ((par_loop laws_heldWriteS_bp0 Fuel (a0, a1, (0 : Int), (0 : Int))).bind2 (fun z1 => (par_ret _)) (fun z2 => (par_ret _)))

def laws_heldTxnS_b0 (x : ((List dTxn) × Int × Int × Int)) (k : ((List dTxn) × Int × Int × Int) ⊕ (((List dTxn) × Int × Int × Int) ⊕ ((List dTxn) × Int × Int × Int)) → Option Res) : Option Res :=
    bif (decide (x.2.2.2 < (x.1.length : Int))) then
      if 0 ≤ x.2.2.2 ∧ x.2.2.2 < (x.1.length : Int) then
        bif ((rd (Ty.zero tTxn) x.1 x.2.2.2).1 != x.2.1) then
          k (.inr (.inl (x.1, x.2.1, (-1 : Int), x.2.2.2)))
        else
          if 0 ≤ x.2.2.2 ∧ x.2.2.2 < (x.1.length : Int) then
            bif ((rd (Ty.zero tTxn) x.1 x.2.2.2).2.1 != (IntKind.wrap .i64 (x.2.1 + (1 : Int)))) then
              k (.inr (.inl (x.1, (IntKind.wrap .i64 (x.2.1 + (1 : Int))), (-1 : Int), x.2.2.2)))
            else
              if 0 ≤ x.2.2.2 ∧ x.2.2.2 < (x.1.length : Int) then
                bif ((rd (Ty.zero tTxn) x.1 x.2.2.2).2.2.1 != (IntKind.wrap .i64 ((IntKind.wrap .i64 (x.2.1 + (1 : Int))) + (1 : Int)))) then
                  k (.inr (.inl (x.1, (IntKind.wrap .i64 ((IntKind.wrap .i64 (x.2.1 + (1 : Int))) + (1 : Int))), (-1 : Int), x.2.2.2)))
                else
                  if 0 ≤ x.2.2.2 ∧ x.2.2.2 < (x.1.length : Int) then
                    bif ((rd (Ty.zero tTxn) x.1 x.2.2.2).2.2.2.1 != (IntKind.wrap .i64 ((IntKind.wrap .i64 ((IntKind.wrap .i64 (x.2.1 + (1 : Int))) + (1 : Int))) + (1 : Int)))) then
                      k (.inr (.inl (x.1, (IntKind.wrap .i64 ((IntKind.wrap .i64 ((IntKind.wrap .i64 (x.2.1 + (1 : Int))) + (1 : Int))) + (1 : Int))), (-1 : Int), x.2.2.2)))
                    else
                      if 0 ≤ x.2.2.2 ∧ x.2.2.2 < (x.1.length : Int) then
                        laws_heldRangeS_k ((rd (Ty.zero tTxn) x.1 x.2.2.2).2.2.2.2.1) (IntKind.wrap .i64 ((IntKind.wrap .i64 ((IntKind.wrap .i64 ((IntKind.wrap .i64 (x.2.1 + (1 : Int))) + (1 : Int))) + (1 : Int))) + (1 : Int))) (fun y3 =>
                          bif (decide (y3 < (0 : Int))) then
                            k (.inr (.inl (x.1, y3, (-1 : Int), x.2.2.2)))
                          else
                            if 0 ≤ x.2.2.2 ∧ x.2.2.2 < (x.1.length : Int) then
                              laws_heldWriteS_k ((rd (Ty.zero tTxn) x.1 x.2.2.2).2.2.2.2.2.1) y3 (fun y4 =>
                                bif (decide (y4 < (0 : Int))) then
                                  k (.inr (.inl (x.1, y4, (-1 : Int), x.2.2.2)))
                                else
                                  if 0 ≤ x.2.2.2 ∧ x.2.2.2 < (x.1.length : Int) then
                                    bif (!((rd (Ty.zero tTxn) x.1 x.2.2.2).2.2.2.2.2.2.1 == ((y4.tmod (3 : Int)) == (0 : Int)))) then
                                      k (.inr (.inl (x.1, y4, (-1 : Int), x.2.2.2)))
                                    else
                                      if 0 ≤ x.2.2.2 ∧ x.2.2.2 < (x.1.length : Int) then
                                        laws_markText_k (IntKind.wrap .i64 (y4 + (1 : Int))) (fun y5 =>
                                          bif (!(strEq ((rd (Ty.zero tTxn) x.1 x.2.2.2).2.2.2.2.2.2.2) y5)) then
                                            k (.inr (.inl (x.1, (IntKind.wrap .i64 (y4 + (1 : Int))), (-1 : Int), x.2.2.2)))
                                          else
                                            k (.inl (x.1, (IntKind.wrap .i64 ((IntKind.wrap .i64 (y4 + (1 : Int))) + (1 : Int))), x.2.2.1, (IntKind.wrap .i64 (x.2.2.2 + (1 : Int))))))
                                      else none
                                  else none)
                            else none)
                      else none
                  else none
              else none
          else none
      else none
    else
      k (.inr (.inr (x.1, x.2.1, x.2.2.1, x.2.2.2)))

theorem laws_heldTxnS_bp0 (x : ((List dTxn) × Int × Int × Int)) : Par (laws_heldTxnS_b0 x) := by
  unfold laws_heldTxnS_b0
  exact (par_bif (par_ite (par_bif (par_ret _) (par_ite (par_bif (par_ret _) (par_ite (par_bif (par_ret _) (par_ite (par_bif (par_ret _) (par_ite ((laws_heldRangeS_p ((rd (Ty.zero tTxn) x.1 x.2.2.2).2.2.2.2.1) (IntKind.wrap .i64 ((IntKind.wrap .i64 ((IntKind.wrap .i64 ((IntKind.wrap .i64 (x.2.1 + (1 : Int))) + (1 : Int))) + (1 : Int))) + (1 : Int)))).bind fun y3 => (par_bif (par_ret _) (par_ite ((laws_heldWriteS_p ((rd (Ty.zero tTxn) x.1 x.2.2.2).2.2.2.2.2.1) y3).bind fun y4 => (par_bif (par_ret _) (par_ite (par_bif (par_ret _) (par_ite ((laws_markText_p (IntKind.wrap .i64 (y4 + (1 : Int)))).bind fun y5 => (par_bif (par_ret _) (par_ret _))) par_none)) par_none))) par_none))) par_none)) par_none)) par_none)) par_none)) par_none) (par_ret _))

def laws_heldTxnS_d (a0 : (List dTxn)) (a1 : Int) (k : Int → Option Res) : Option Res :=
  loopK laws_heldTxnS_b0 Fuel (a0, a1, (0 : Int), (0 : Int)) (Sum.elim (fun z1 =>
    k z1.2.2.1) (fun z2 =>
    k z2.2.1))

theorem laws_heldTxnS_h : ∃ g : (List dTxn) → Int → (Int → Option Res) → Option Res, g = laws_heldTxnS_d := ⟨_, rfl⟩
def laws_heldTxnS_k : (List dTxn) → Int → (Int → Option Res) → Option Res := Classical.choose laws_heldTxnS_h
theorem laws_heldTxnS_e : laws_heldTxnS_k = laws_heldTxnS_d := Classical.choose_spec laws_heldTxnS_h

theorem laws_heldTxnS_p (a0 : (List dTxn)) (a1 : Int) : Par (laws_heldTxnS_k a0 a1) := by
  rw [laws_heldTxnS_e]
  unfold laws_heldTxnS_d
  exact ((par_loop laws_heldTxnS_bp0 Fuel (a0, a1, (0 : Int), (0 : Int))).bind2 (fun z1 => (par_ret _)) (fun z2 => (par_ret _)))

def laws_heldBase_d (a0 : dBase) (a1 : Int) (k : Int → Option Res) : Option Res :=
  laws_heldVersionS_k a0.1 a1 (fun y1 =>
    bif (decide (y1 < (0 : Int))) then
      k (-1 : Int)
    else
      laws_heldTxnS_k a0.2.1 y1 (fun y2 =>
        bif (decide (y2 < (0 : Int))) then
          k (-1 : Int)
        else
          laws_heldTxnS_k a0.2.2.1 y2 (fun y3 =>
            bif (decide (y3 < (0 : Int))) then
              k (-1 : Int)
            else
              k y3)))

theorem laws_heldBase_h : ∃ g : dBase → Int → (Int → Option Res) → Option Res, g = laws_heldBase_d := ⟨_, rfl⟩
def laws_heldBase_k : dBase → Int → (Int → Option Res) → Option Res := Classical.choose laws_heldBase_h
theorem laws_heldBase_e : laws_heldBase_k = laws_heldBase_d := Classical.choose_spec laws_heldBase_h

theorem laws_heldBase_p (a0 : dBase) (a1 : Int) : Par (laws_heldBase_k a0 a1) := by
  rw [laws_heldBase_e]
  unfold laws_heldBase_d
  exact ((laws_heldVersionS_p a0.1 a1).bind fun y1 => (par_bif (par_ret _) ((laws_heldTxnS_p a0.2.1 y1).bind fun y2 => (par_bif (par_ret _) ((laws_heldTxnS_p a0.2.2.1 y2).bind fun y3 => (par_bif (par_ret _) (par_ret _)))))))

def laws_heldEngine_d (a0 : dEngine) (a1 : Int) (k : Int → Option Res) : Option Res :=
  laws_heldBase_k a0.1 a1 (fun y1 =>
    bif (decide (y1 < (0 : Int))) then
      k (-1 : Int)
    else
      laws_heldTxnS_k a0.2 y1 (fun y2 =>
        bif (decide (y2 < (0 : Int))) then
          k (-1 : Int)
        else
          k y2))

theorem laws_heldEngine_h : ∃ g : dEngine → Int → (Int → Option Res) → Option Res, g = laws_heldEngine_d := ⟨_, rfl⟩
def laws_heldEngine_k : dEngine → Int → (Int → Option Res) → Option Res := Classical.choose laws_heldEngine_h
theorem laws_heldEngine_e : laws_heldEngine_k = laws_heldEngine_d := Classical.choose_spec laws_heldEngine_h

theorem laws_heldEngine_p (a0 : dEngine) (a1 : Int) : Par (laws_heldEngine_k a0 a1) := by
  rw [laws_heldEngine_e]
  unfold laws_heldEngine_d
  exact ((laws_heldBase_p a0.1 a1).bind fun y1 => (par_bif (par_ret _) ((laws_heldTxnS_p a0.2 y1).bind fun y2 => (par_bif (par_ret _) (par_ret _)))))

def laws_FnExactEngineNew_d  (k : Bool → Option Res) : Option Res :=
  spec_EngineNew_k  (fun y1 =>
    impl_EngineNew_k  (fun y2 =>
      laws_eqEngine_k ((([] : List dVersion), (([] : List dTxn), (([] : List dTxn), y2))), ([] : List dTxn)) ((([] : List dVersion), (([] : List dTxn), (([] : List dTxn), y1))), ([] : List dTxn)) (fun y3 =>
        bif (!y3) then
          k false
        else
          laws_markEngine_va_k y2.1 y2.2 (1 : Int) (fun y4 =>
            laws_heldEngine_k ((([] : List dVersion), (([] : List dTxn), (([] : List dTxn), y2))), ([] : List dTxn)) (1 : Int) (fun y5 =>
              bif (decide (y5 < (0 : Int))) then
                k false
              else
                bif (y5 != y4) then
                  k false
                else
                  impl_EngineNew_k  (fun y6 =>
                    laws_eqEngine_k ((([] : List dVersion), (([] : List dTxn), (([] : List dTxn), y6))), ([] : List dTxn)) ((([] : List dVersion), (([] : List dTxn), (([] : List dTxn), y1))), ([] : List dTxn)) (fun y7 =>
                      bif (!y7) then
                        k false
                      else
                        laws_heldEngine_k ((([] : List dVersion), (([] : List dTxn), (([] : List dTxn), y2))), ([] : List dTxn)) (1 : Int) (fun y8 =>
                          bif (decide (y8 < (0 : Int))) then
                            k false
                          else
                            bif (y8 != y4) then
                              k false
                            else
                              k true))))))))

theorem laws_FnExactEngineNew_h : ∃ g : (Bool → Option Res) → Option Res, g = laws_FnExactEngineNew_d := ⟨_, rfl⟩
def laws_FnExactEngineNew_k : (Bool → Option Res) → Option Res := Classical.choose laws_FnExactEngineNew_h
theorem laws_FnExactEngineNew_e : laws_FnExactEngineNew_k = laws_FnExactEngineNew_d := Classical.choose_spec laws_FnExactEngineNew_h

theorem laws_FnExactEngineNew_p  : Par (laws_FnExactEngineNew_k ) := by
  rw [laws_FnExactEngineNew_e]
  unfold laws_FnExactEngineNew_d
  exact ((spec_EngineNew_p ).bind fun y1 => ((impl_EngineNew_p ).bind fun y2 => ((laws_eqEngine_p ((([] : List dVersion), (([] : List dTxn), (([] : List dTxn), y2))), ([] : List dTxn)) ((([] : List dVersion), (([] : List dTxn), (([] : List dTxn), y1))), ([] : List dTxn))).bind fun y3 => (par_bif (par_ret _) ((laws_markEngine_va_p y2.1 y2.2 (1 : Int)).bind fun y4 => ((laws_heldEngine_p ((([] : List dVersion), (([] : List dTxn), (([] : List dTxn), y2))), ([] : List dTxn)) (1 : Int)).bind fun y5 => (par_bif (par_ret _) (par_bif (par_ret _) ((impl_EngineNew_p ).bind fun y6 => ((laws_eqEngine_p ((([] : List dVersion), (([] : List dTxn), (([] : List dTxn), y6))), ([] : List dTxn)) ((([] : List dVersion), (([] : List dTxn), (([] : List dTxn), y1))), ([] : List dTxn))).bind fun y7 => (par_bif (par_ret _) ((laws_heldEngine_p ((([] : List dVersion), (([] : List dTxn), (([] : List dTxn), y2))), ([] : List dTxn)) (1 : Int)).bind fun y8 => (par_bif (par_ret _) (par_bif (par_ret _) (par_ret _)))))))))))))))

def spec_BaseNew_g (args : List AV) (st : St) (k : K1) : Option Res :=
  onPats [] [] args st (fun p q => spec_BaseNew_k  (fun (y : (Int × Int)) => k (.agg [.nilS, .nilS, .nilS, .int .i64 y.1, .int .i64 y.2]) []))
    (none)

theorem spec_BaseNew_q  : Par (fun k : AV × St → Option Res => spec_BaseNew_g [] [] (fun v s => k (v, s))) :=
  (spec_BaseNew_p ).bind (H := fun (y : (Int × Int)) (k : AV × St → Option Res) => (fun (y : (Int × Int)) => k ((.agg [.nilS, .nilS, .nilS, .int .i64 y.1, .int .i64 y.2] : AV), ([] : St))) y) (fun y => par_ret _)

def spec_EngineNew_g (args : List AV) (st : St) (k : K1) : Option Res :=
  onPats [] [] args st (fun p q => spec_EngineNew_k  (fun (y : (Int × Int)) => k (.agg [.nilS, .nilS, .nilS, .int .i64 y.1, .int .i64 y.2, .nilS]) []))
    (none)

theorem spec_EngineNew_q  : Par (fun k : AV × St → Option Res => spec_EngineNew_g [] [] (fun v s => k (v, s))) :=
  (spec_EngineNew_p ).bind (H := fun (y : (Int × Int)) (k : AV × St → Option Res) => (fun (y : (Int × Int)) => k ((.agg [.nilS, .nilS, .nilS, .int .i64 y.1, .int .i64 y.2, .nilS] : AV), ([] : St))) y) (fun y => par_ret _)

def impl_BaseNew_g (args : List AV) (st : St) (k : K1) : Option Res :=
  onPats [] [] args st (fun p q => impl_BaseNew_k  (fun (y : (Int × Int)) => k (.agg [.nilS, .nilS, .nilS, .int .i64 y.1, .int .i64 y.2]) []))
    (none)

theorem impl_BaseNew_q  : Par (fun k : AV × St → Option Res => impl_BaseNew_g [] [] (fun v s => k (v, s))) :=
  (impl_BaseNew_p ).bind (H := fun (y : (Int × Int)) (k : AV × St → Option Res) => (fun (y : (Int × Int)) => k ((.agg [.nilS, .nilS, .nilS, .int .i64 y.1, .int .i64 y.2] : AV), ([] : St))) y) (fun y => par_ret _)

def impl_EngineNew_g (args : List AV) (st : St) (k : K1) : Option Res :=
  onPats [] [] args st (fun p q => impl_EngineNew_k  (fun (y : (Int × Int)) => k (.agg [.nilS, .nilS, .nilS, .int .i64 y.1, .int .i64 y.2, .nilS]) []))
    (none)

theorem impl_EngineNew_q  : Par (fun k : AV × St → Option Res => impl_EngineNew_g [] [] (fun v s => k (v, s))) :=
  (impl_EngineNew_p ).bind (H := fun (y : (Int × Int)) (k : AV × St → Option Res) => (fun (y : (Int × Int)) => k ((.agg [.nilS, .nilS, .nilS, .int .i64 y.1, .int .i64 y.2, .nilS] : AV), ([] : St))) y) (fun y => par_ret _)

def laws_eqVersion_g (args : List AV) (st : St) (k : K1) : Option Res :=
  onPats [.agg [.str, .str, .bool, .int .i64], .agg [.str, .str, .bool, .int .i64]] [] args st (fun p q => laws_eqVersion_k (p.1.1, (p.1.2.1, (p.1.2.2.1, p.1.2.2.2.1))) (p.2.1.1, (p.2.1.2.1, (p.2.1.2.2.1, p.2.1.2.2.2.1))) (fun (y : Bool) => k (.bool y) []))
    (none)

theorem laws_eqVersion_q (a0 : ByteArray) (a1 : ByteArray) (a2 : Bool) (a3 : Int) (a4 : ByteArray) (a5 : ByteArray) (a6 : Bool) (a7 : Int) : Par (fun k : AV × St → Option Res => laws_eqVersion_g [.agg [.str a0, .str a1, .bool a2, .int .i64 a3], .agg [.str a4, .str a5, .bool a6, .int .i64 a7]] [] (fun v s => k (v, s))) :=
  (laws_eqVersion_p (a0, (a1, (a2, a3))) (a4, (a5, (a6, a7)))).bind (H := fun (y : Bool) (k : AV × St → Option Res) => (fun (y : Bool) => k ((.bool y : AV), ([] : St))) y) (fun y => par_ret _)

def laws_eqVersionS_g (args : List AV) (st : St) (k : K1) : Option Res :=
  onPats [.lst tVersion, .lst tVersion] [] args st (fun p q => laws_eqVersionS_k p.1 p.2.1 (fun (y : Bool) => k (.bool y) []))
    (none)

theorem laws_eqVersionS_q (a0 : (List dVersion)) (a1 : (List dVersion)) : Par (fun k : AV × St → Option Res => laws_eqVersionS_g [.lst tVersion a0, .lst tVersion a1] [] (fun v s => k (v, s))) :=
  (laws_eqVersionS_p a0 a1).bind (H := fun (y : Bool) (k : AV × St → Option Res) => (fun (y : Bool) => k ((.bool y : AV), ([] : St))) y) (fun y => par_ret _)

def laws_eqRange_g (args : List AV) (st : St) (k : K1) : Option Res :=
  onPats [.agg [.str, .str], .agg [.str, .str]] [] args st (fun p q => laws_eqRange_k (p.1.1, p.1.2.1) (p.2.1.1, p.2.1.2.1) (fun (y : Bool) => k (.bool y) []))
    (none)

theorem laws_eqRange_q (a0 : ByteArray) (a1 : ByteArray) (a2 : ByteArray) (a3 : ByteArray) : Par (fun k : AV × St → Option Res => laws_eqRange_g [.agg [.str a0, .str a1], .agg [.str a2, .str a3]] [] (fun v s => k (v, s))) :=
  (laws_eqRange_p (a0, a1) (a2, a3)).bind (H := fun (y : Bool) (k : AV × St → Option Res) => (fun (y : Bool) => k ((.bool y : AV), ([] : St))) y) (fun y => par_ret _)

def laws_eqRangeS_g (args : List AV) (st : St) (k : K1) : Option Res :=
  onPats [.lst tRange, .lst tRange] [] args st (fun p q => laws_eqRangeS_k p.1 p.2.1 (fun (y : Bool) => k (.bool y) []))
    (none)

theorem laws_eqRangeS_q (a0 : (List dRange)) (a1 : (List dRange)) : Par (fun k : AV × St → Option Res => laws_eqRangeS_g [.lst tRange a0, .lst tRange a1] [] (fun v s => k (v, s))) :=
  (laws_eqRangeS_p a0 a1).bind (H := fun (y : Bool) (k : AV × St → Option Res) => (fun (y : Bool) => k ((.bool y : AV), ([] : St))) y) (fun y => par_ret _)

def laws_eqWrite_g (args : List AV) (st : St) (k : K1) : Option Res :=
  onPats [.agg [.str, .str, .bool], .agg [.str, .str, .bool]] [] args st (fun p q => laws_eqWrite_k (p.1.1, (p.1.2.1, p.1.2.2.1)) (p.2.1.1, (p.2.1.2.1, p.2.1.2.2.1)) (fun (y : Bool) => k (.bool y) []))
    (none)

theorem laws_eqWrite_q (a0 : ByteArray) (a1 : ByteArray) (a2 : Bool) (a3 : ByteArray) (a4 : ByteArray) (a5 : Bool) : Par (fun k : AV × St → Option Res => laws_eqWrite_g [.agg [.str a0, .str a1, .bool a2], .agg [.str a3, .str a4, .bool a5]] [] (fun v s => k (v, s))) :=
  (laws_eqWrite_p (a0, (a1, a2)) (a3, (a4, a5))).bind (H := fun (y : Bool) (k : AV × St → Option Res) => (fun (y : Bool) => k ((.bool y : AV), ([] : St))) y) (fun y => par_ret _)

def laws_eqWriteS_g (args : List AV) (st : St) (k : K1) : Option Res :=
  onPats [.lst tWrite, .lst tWrite] [] args st (fun p q => laws_eqWriteS_k p.1 p.2.1 (fun (y : Bool) => k (.bool y) []))
    (none)

theorem laws_eqWriteS_q (a0 : (List dWrite)) (a1 : (List dWrite)) : Par (fun k : AV × St → Option Res => laws_eqWriteS_g [.lst tWrite a0, .lst tWrite a1] [] (fun v s => k (v, s))) :=
  (laws_eqWriteS_p a0 a1).bind (H := fun (y : Bool) (k : AV × St → Option Res) => (fun (y : Bool) => k ((.bool y : AV), ([] : St))) y) (fun y => par_ret _)

def laws_eqTxn_g (args : List AV) (st : St) (k : K1) : Option Res :=
  onPats [.agg [.int .i64, .int .i64, .int .i64, .int .i64, .lst tRange, .lst tWrite, .bool, .str], .agg [.int .i64, .int .i64, .int .i64, .int .i64, .lst tRange, .lst tWrite, .bool, .str]] [] args st (fun p q => laws_eqTxn_k (p.1.1, (p.1.2.1, (p.1.2.2.1, (p.1.2.2.2.1, (p.1.2.2.2.2.1, (p.1.2.2.2.2.2.1, (p.1.2.2.2.2.2.2.1, p.1.2.2.2.2.2.2.2.1))))))) (p.2.1.1, (p.2.1.2.1, (p.2.1.2.2.1, (p.2.1.2.2.2.1, (p.2.1.2.2.2.2.1, (p.2.1.2.2.2.2.2.1, (p.2.1.2.2.2.2.2.2.1, p.2.1.2.2.2.2.2.2.2.1))))))) (fun (y : Bool) => k (.bool y) []))
    (none)

theorem laws_eqTxn_q (a0 : Int) (a1 : Int) (a2 : Int) (a3 : Int) (a4 : (List dRange)) (a5 : (List dWrite)) (a6 : Bool) (a7 : ByteArray) (a8 : Int) (a9 : Int) (a10 : Int) (a11 : Int) (a12 : (List dRange)) (a13 : (List dWrite)) (a14 : Bool) (a15 : ByteArray) : Par (fun k : AV × St → Option Res => laws_eqTxn_g [.agg [.int .i64 a0, .int .i64 a1, .int .i64 a2, .int .i64 a3, .lst tRange a4, .lst tWrite a5, .bool a6, .str a7], .agg [.int .i64 a8, .int .i64 a9, .int .i64 a10, .int .i64 a11, .lst tRange a12, .lst tWrite a13, .bool a14, .str a15]] [] (fun v s => k (v, s))) :=
  (laws_eqTxn_p (a0, (a1, (a2, (a3, (a4, (a5, (a6, a7))))))) (a8, (a9, (a10, (a11, (a12, (a13, (a14, a15)))))))).bind (H := fun (y : Bool) (k : AV × St → Option Res) => (fun (y : Bool) => k ((.bool y : AV), ([] : St))) y) (fun y => par_ret _)

def laws_eqTxnS_g (args : List AV) (st : St) (k : K1) : Option Res :=
  onPats [.lst tTxn, .lst tTxn] [] args st (fun p q => laws_eqTxnS_k p.1 p.2.1 (fun (y : Bool) => k (.bool y) []))
    (none)

theorem laws_eqTxnS_q (a0 : (List dTxn)) (a1 : (List dTxn)) : Par (fun k : AV × St → Option Res => laws_eqTxnS_g [.lst tTxn a0, .lst tTxn a1] [] (fun v s => k (v, s))) :=
  (laws_eqTxnS_p a0 a1).bind (H := fun (y : Bool) (k : AV × St → Option Res) => (fun (y : Bool) => k ((.bool y : AV), ([] : St))) y) (fun y => par_ret _)

def laws_eqBase_g (args : List AV) (st : St) (k : K1) : Option Res :=
  onPats [.agg [.lst tVersion, .lst tTxn, .lst tTxn, .int .i64, .int .i64], .agg [.lst tVersion, .lst tTxn, .lst tTxn, .int .i64, .int .i64]] [] args st (fun p q => laws_eqBase_k (p.1.1, (p.1.2.1, (p.1.2.2.1, (p.1.2.2.2.1, p.1.2.2.2.2.1)))) (p.2.1.1, (p.2.1.2.1, (p.2.1.2.2.1, (p.2.1.2.2.2.1, p.2.1.2.2.2.2.1)))) (fun (y : Bool) => k (.bool y) []))
    (none)

theorem laws_eqBase_q (a0 : (List dVersion)) (a1 : (List dTxn)) (a2 : (List dTxn)) (a3 : Int) (a4 : Int) (a5 : (List dVersion)) (a6 : (List dTxn)) (a7 : (List dTxn)) (a8 : Int) (a9 : Int) : Par (fun k : AV × St → Option Res => laws_eqBase_g [.agg [.lst tVersion a0, .lst tTxn a1, .lst tTxn a2, .int .i64 a3, .int .i64 a4], .agg [.lst tVersion a5, .lst tTxn a6, .lst tTxn a7, .int .i64 a8, .int .i64 a9]] [] (fun v s => k (v, s))) :=
  (laws_eqBase_p (a0, (a1, (a2, (a3, a4)))) (a5, (a6, (a7, (a8, a9))))).bind (H := fun (y : Bool) (k : AV × St → Option Res) => (fun (y : Bool) => k ((.bool y : AV), ([] : St))) y) (fun y => par_ret _)

def laws_eqEngine_g (args : List AV) (st : St) (k : K1) : Option Res :=
  onPats [.agg [.lst tVersion, .lst tTxn, .lst tTxn, .int .i64, .int .i64, .lst tTxn], .agg [.lst tVersion, .lst tTxn, .lst tTxn, .int .i64, .int .i64, .lst tTxn]] [] args st (fun p q => laws_eqEngine_k ((p.1.1, (p.1.2.1, (p.1.2.2.1, (p.1.2.2.2.1, p.1.2.2.2.2.1)))), p.1.2.2.2.2.2.1) ((p.2.1.1, (p.2.1.2.1, (p.2.1.2.2.1, (p.2.1.2.2.2.1, p.2.1.2.2.2.2.1)))), p.2.1.2.2.2.2.2.1) (fun (y : Bool) => k (.bool y) []))
    (none)

theorem laws_eqEngine_q (a0 : (List dVersion)) (a1 : (List dTxn)) (a2 : (List dTxn)) (a3 : Int) (a4 : Int) (a5 : (List dTxn)) (a6 : (List dVersion)) (a7 : (List dTxn)) (a8 : (List dTxn)) (a9 : Int) (a10 : Int) (a11 : (List dTxn)) : Par (fun k : AV × St → Option Res => laws_eqEngine_g [.agg [.lst tVersion a0, .lst tTxn a1, .lst tTxn a2, .int .i64 a3, .int .i64 a4, .lst tTxn a5], .agg [.lst tVersion a6, .lst tTxn a7, .lst tTxn a8, .int .i64 a9, .int .i64 a10, .lst tTxn a11]] [] (fun v s => k (v, s))) :=
  (laws_eqEngine_p ((a0, (a1, (a2, (a3, a4)))), a5) ((a6, (a7, (a8, (a9, a10)))), a11)).bind (H := fun (y : Bool) (k : AV × St → Option Res) => (fun (y : Bool) => k ((.bool y : AV), ([] : St))) y) (fun y => par_ret _)

def laws_markText_g (args : List AV) (st : St) (k : K1) : Option Res :=
  onPats [.int .i64] [] args st (fun p q => laws_markText_k p.1 (fun (y : ByteArray) => k (.str y) []))
    (none)

theorem laws_markText_q (a0 : Int) : Par (fun k : AV × St → Option Res => laws_markText_g [.int .i64 a0] [] (fun v s => k (v, s))) :=
  (laws_markText_p a0).bind (H := fun (y : ByteArray) (k : AV × St → Option Res) => (fun (y : ByteArray) => k ((.str y : AV), ([] : St))) y) (fun y => par_ret _)

def laws_markVersionS_g (args : List AV) (st : St) (k : K1) : Option Res :=
  onPats [.nilS, .int .i64] [] args st (fun p q => laws_markVersionS_vn_k p.2.1 (fun (y : Int) => k (.int .i64 y) []))
    (none)

theorem laws_markVersionS_vn_q (a0 : Int) : Par (fun k : AV × St → Option Res => laws_markVersionS_g [.nilS, .int .i64 a0] [] (fun v s => k (v, s))) :=
  (laws_markVersionS_vn_p a0).bind (H := fun (y : Int) (k : AV × St → Option Res) => (fun (y : Int) => k ((.int .i64 y : AV), ([] : St))) y) (fun y => par_ret _)

def laws_markTxnS_g (args : List AV) (st : St) (k : K1) : Option Res :=
  onPats [.nilS, .int .i64] [] args st (fun p q => laws_markTxnS_vn_k p.2.1 (fun (y : Int) => k (.int .i64 y) []))
    (none)

theorem laws_markTxnS_vn_q (a0 : Int) : Par (fun k : AV × St → Option Res => laws_markTxnS_g [.nilS, .int .i64 a0] [] (fun v s => k (v, s))) :=
  (laws_markTxnS_vn_p a0).bind (H := fun (y : Int) (k : AV × St → Option Res) => (fun (y : Int) => k ((.int .i64 y : AV), ([] : St))) y) (fun y => par_ret _)

def laws_markBase_g (args : List AV) (st : St) (k : K1) : Option Res :=
  onPats [.agg [.nilS, .nilS, .nilS, .int .i64, .int .i64], .int .i64] [] args st (fun p q => laws_markBase_va_k p.1.2.2.2.1 p.1.2.2.2.2.1 p.2.1 (fun (y : Int) => k (.int .i64 y) []))
    (none)

theorem laws_markBase_va_q (a0 : Int) (a1 : Int) (a2 : Int) : Par (fun k : AV × St → Option Res => laws_markBase_g [.agg [.nilS, .nilS, .nilS, .int .i64 a0, .int .i64 a1], .int .i64 a2] [] (fun v s => k (v, s))) :=
  (laws_markBase_va_p a0 a1 a2).bind (H := fun (y : Int) (k : AV × St → Option Res) => (fun (y : Int) => k ((.int .i64 y : AV), ([] : St))) y) (fun y => par_ret _)

def laws_markEngine_g (args : List AV) (st : St) (k : K1) : Option Res :=
  onPats [.agg [.nilS, .nilS, .nilS, .int .i64, .int .i64, .nilS], .int .i64] [] args st (fun p q => laws_markEngine_va_k p.1.2.2.2.1 p.1.2.2.2.2.1 p.2.1 (fun (y : Int) => k (.int .i64 y) []))
    (none)

theorem laws_markEngine_va_q (a0 : Int) (a1 : Int) (a2 : Int) : Par (fun k : AV × St → Option Res => laws_markEngine_g [.agg [.nilS, .nilS, .nilS, .int .i64 a0, .int .i64 a1, .nilS], .int .i64 a2] [] (fun v s => k (v, s))) :=
  (laws_markEngine_va_p a0 a1 a2).bind (H := fun (y : Int) (k : AV × St → Option Res) => (fun (y : Int) => k ((.int .i64 y : AV), ([] : St))) y) (fun y => par_ret _)

def laws_heldVersionS_g (args : List AV) (st : St) (k : K1) : Option Res :=
  onPats [.lst tVersion, .int .i64] [] args st (fun p q => laws_heldVersionS_k p.1 p.2.1 (fun (y : Int) => k (.int .i64 y) []))
    (none)

theorem laws_heldVersionS_q (a0 : (List dVersion)) (a1 : Int) : Par (fun k : AV × St → Option Res => laws_heldVersionS_g [.lst tVersion a0, .int .i64 a1] [] (fun v s => k (v, s))) :=
  (laws_heldVersionS_p a0 a1).bind (H := fun (y : Int) (k : AV × St → Option Res) => (fun (y : Int) => k ((.int .i64 y : AV), ([] : St))) y) (fun y => par_ret _)

def laws_heldRangeS_g (args : List AV) (st : St) (k : K1) : Option Res :=
  onPats [.lst tRange, .int .i64] [] args st (fun p q => laws_heldRangeS_k p.1 p.2.1 (fun (y : Int) => k (.int .i64 y) []))
    (none)

theorem laws_heldRangeS_q (a0 : (List dRange)) (a1 : Int) : Par (fun k : AV × St → Option Res => laws_heldRangeS_g [.lst tRange a0, .int .i64 a1] [] (fun v s => k (v, s))) :=
  (laws_heldRangeS_p a0 a1).bind (H := fun (y : Int) (k : AV × St → Option Res) => (fun (y : Int) => k ((.int .i64 y : AV), ([] : St))) y) (fun y => par_ret _)

def laws_heldWriteS_g (args : List AV) (st : St) (k : K1) : Option Res :=
  onPats [.lst tWrite, .int .i64] [] args st (fun p q => laws_heldWriteS_k p.1 p.2.1 (fun (y : Int) => k (.int .i64 y) []))
    (none)

theorem laws_heldWriteS_q (a0 : (List dWrite)) (a1 : Int) : Par (fun k : AV × St → Option Res => laws_heldWriteS_g [.lst tWrite a0, .int .i64 a1] [] (fun v s => k (v, s))) :=
  (laws_heldWriteS_p a0 a1).bind (H := fun (y : Int) (k : AV × St → Option Res) => (fun (y : Int) => k ((.int .i64 y : AV), ([] : St))) y) (fun y => par_ret _)

def laws_heldTxnS_g (args : List AV) (st : St) (k : K1) : Option Res :=
  onPats [.lst tTxn, .int .i64] [] args st (fun p q => laws_heldTxnS_k p.1 p.2.1 (fun (y : Int) => k (.int .i64 y) []))
    (none)

theorem laws_heldTxnS_q (a0 : (List dTxn)) (a1 : Int) : Par (fun k : AV × St → Option Res => laws_heldTxnS_g [.lst tTxn a0, .int .i64 a1] [] (fun v s => k (v, s))) :=
  (laws_heldTxnS_p a0 a1).bind (H := fun (y : Int) (k : AV × St → Option Res) => (fun (y : Int) => k ((.int .i64 y : AV), ([] : St))) y) (fun y => par_ret _)

def laws_heldBase_g (args : List AV) (st : St) (k : K1) : Option Res :=
  onPats [.agg [.lst tVersion, .lst tTxn, .lst tTxn, .int .i64, .int .i64], .int .i64] [] args st (fun p q => laws_heldBase_k (p.1.1, (p.1.2.1, (p.1.2.2.1, (p.1.2.2.2.1, p.1.2.2.2.2.1)))) p.2.1 (fun (y : Int) => k (.int .i64 y) []))
    (none)

theorem laws_heldBase_q (a0 : (List dVersion)) (a1 : (List dTxn)) (a2 : (List dTxn)) (a3 : Int) (a4 : Int) (a5 : Int) : Par (fun k : AV × St → Option Res => laws_heldBase_g [.agg [.lst tVersion a0, .lst tTxn a1, .lst tTxn a2, .int .i64 a3, .int .i64 a4], .int .i64 a5] [] (fun v s => k (v, s))) :=
  (laws_heldBase_p (a0, (a1, (a2, (a3, a4)))) a5).bind (H := fun (y : Int) (k : AV × St → Option Res) => (fun (y : Int) => k ((.int .i64 y : AV), ([] : St))) y) (fun y => par_ret _)

def laws_heldEngine_g (args : List AV) (st : St) (k : K1) : Option Res :=
  onPats [.agg [.lst tVersion, .lst tTxn, .lst tTxn, .int .i64, .int .i64, .lst tTxn], .int .i64] [] args st (fun p q => laws_heldEngine_k ((p.1.1, (p.1.2.1, (p.1.2.2.1, (p.1.2.2.2.1, p.1.2.2.2.2.1)))), p.1.2.2.2.2.2.1) p.2.1 (fun (y : Int) => k (.int .i64 y) []))
    (none)

theorem laws_heldEngine_q (a0 : (List dVersion)) (a1 : (List dTxn)) (a2 : (List dTxn)) (a3 : Int) (a4 : Int) (a5 : (List dTxn)) (a6 : Int) : Par (fun k : AV × St → Option Res => laws_heldEngine_g [.agg [.lst tVersion a0, .lst tTxn a1, .lst tTxn a2, .int .i64 a3, .int .i64 a4, .lst tTxn a5], .int .i64 a6] [] (fun v s => k (v, s))) :=
  (laws_heldEngine_p ((a0, (a1, (a2, (a3, a4)))), a5) a6).bind (H := fun (y : Int) (k : AV × St → Option Res) => (fun (y : Int) => k ((.int .i64 y : AV), ([] : St))) y) (fun y => par_ret _)

def laws_FnExactEngineNew_g (args : List AV) (st : St) (k : K1) : Option Res :=
  onPats [] [] args st (fun p q => laws_FnExactEngineNew_k  (fun (y : Bool) => k (.bool y) []))
    (none)

theorem laws_FnExactEngineNew_q  : Par (fun k : AV × St → Option Res => laws_FnExactEngineNew_g [] [] (fun v s => k (v, s))) :=
  (laws_FnExactEngineNew_p ).bind (H := fun (y : Bool) (k : AV × St → Option Res) => (fun (y : Bool) => k ((.bool y : AV), ([] : St))) y) (fun y => par_ret _)

end

end Go.VE
