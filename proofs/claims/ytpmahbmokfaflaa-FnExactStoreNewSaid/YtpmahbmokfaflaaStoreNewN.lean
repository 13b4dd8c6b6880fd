/- Native programs of the functions, written by gen.py. -/

import Derived.Test.YtpmahbmokfaflaaT0
import Derived.Test.YtpmahbmokfaflaaV27

namespace Go.VE

noncomputable section

set_option linter.unusedVariables false
set_option linter.unusedSimpArgs false
set_option maxRecDepth 100000


def spec_BaseNew_d  (k : (Int × Int) → Option Res) : Option Res :=
  k ((0 : Int), (1 : Int))

theorem spec_BaseNew_h : ∃ g : ((Int × Int) → Option Res) → Option Res, g = spec_BaseNew_d := ⟨_, rfl⟩
def spec_BaseNew_k : ((Int × Int) → Option Res) → Option Res := Classical.choose spec_BaseNew_h
theorem spec_BaseNew_e : spec_BaseNew_k = spec_BaseNew_d := Classical.choose_spec spec_BaseNew_h

theorem spec_BaseNew_p  : Par (spec_BaseNew_k ) := by
  rw [spec_BaseNew_e]
  unfold spec_BaseNew_d
  exact (par_ret _)

def spec_EngineNew_d  (k : (Int × Int) → Option Res) : Option Res :=
  spec_BaseNew_k  (fun y1 =>
    k (y1.1, y1.2))

theorem spec_EngineNew_h : ∃ g : ((Int × Int) → Option Res) → Option Res, g = spec_EngineNew_d := ⟨_, rfl⟩
def spec_EngineNew_k : ((Int × Int) → Option Res) → Option Res := Classical.choose spec_EngineNew_h
theorem spec_EngineNew_e : spec_EngineNew_k = spec_EngineNew_d := Classical.choose_spec spec_EngineNew_h

theorem spec_EngineNew_p  : Par (spec_EngineNew_k ) := by
  rw [spec_EngineNew_e]
  unfold spec_EngineNew_d
  exact ((spec_BaseNew_p ).bind fun y1 => (par_ret _))

def spec_l04Sectors_d  (k : Int → Option Res) : Option Res :=
  k (97 : Int)

theorem spec_l04Sectors_h : ∃ g : (Int → Option Res) → Option Res, g = spec_l04Sectors_d := ⟨_, rfl⟩
def spec_l04Sectors_k : (Int → Option Res) → Option Res := Classical.choose spec_l04Sectors_h
theorem spec_l04Sectors_e : spec_l04Sectors_k = spec_l04Sectors_d := Classical.choose_spec spec_l04Sectors_h

theorem spec_l04Sectors_p  : Par (spec_l04Sectors_k ) := by
  rw [spec_l04Sectors_e]
  unfold spec_l04Sectors_d
  exact (par_ret _)

def spec_l01In_d (a0 : Int) (a1 : Int) (a2 : Int) (k : Bool → Option Res) : Option Res :=
  bif (decide (a0 ≥ a1)) then
    k (decide (a0 ≤ a2))
  else
    k false

theorem spec_l01In_h : ∃ g : Int → Int → Int → (Bool → Option Res) → Option Res, g = spec_l01In_d := ⟨_, rfl⟩
def spec_l01In_k : Int → Int → Int → (Bool → Option Res) → Option Res := Classical.choose spec_l01In_h
theorem spec_l01In_e : spec_l01In_k = spec_l01In_d := Classical.choose_spec spec_l01In_h

theorem spec_l01In_p (a0 : Int) (a1 : Int) (a2 : Int) : Par (spec_l01In_k a0 a1 a2) := by
  rw [spec_l01In_e]
  unfold spec_l01In_d
  exact (par_bif (par_ret _) (par_ret _))

def spec_l01Long_b0 (x : (Int × Int × Int × (List Int))) (k : (Int × Int × Int × (List Int)) ⊕ (Int × Int × Int × (List Int)) → Option Res) : Option Res :=
    bif (decide (x.2.2.1 < x.1)) then
      if 0 ≤ x.2.2.1 ∧ x.2.2.1 < (x.2.2.2.length : Int) then
        k (.inl (x.1, x.2.1, (IntKind.wrap .i64 (x.2.2.1 + (1 : Int))), (x.2.2.2.set x.2.2.1.toNat x.2.1)))
      else none
    else
      k (.inr (x.1, x.2.1, x.2.2.1, x.2.2.2))

theorem spec_l01Long_bp0 (x : (Int × Int × Int × (List Int))) : Par (spec_l01Long_b0 x) := by
  unfold spec_l01Long_b0
  exact (par_bif (par_ite (c := 0 ≤ x.2.2.1 ∧ x.2.2.1 < (x.2.2.2.length : Int)) (par_ret _) par_none) (par_ret _))

def spec_l01Long_d (a0 : Int) (a1 : Int) (k : ByteArray → Option Res) : Option Res :=
  if 0 ≤ a0 ∧ a0 ≤ a0 ∧ a0 ≤ (VE.maxLen : Int) then
    loopK spec_l01Long_b0 Fuel (a0, a1, (0 : Int), (List.replicate a0.toNat (Ty.zero (.int .u8)))) (fun z1 =>
      k (bytesOf z1.2.2.2))
  else none

theorem spec_l01Long_h : ∃ g : Int → Int → (ByteArray → Option Res) → Option Res, g = spec_l01Long_d := ⟨_, rfl⟩
def spec_l01Long_k : Int → Int → (ByteArray → Option Res) → Option Res := Classical.choose spec_l01Long_h
theorem spec_l01Long_e : spec_l01Long_k = spec_l01Long_d := Classical.choose_spec spec_l01Long_h

theorem spec_l01Long_p (a0 : Int) (a1 : Int) : Par (spec_l01Long_k a0 a1) := by
  rw [spec_l01Long_e]
  unfold spec_l01Long_d
  exact (par_ite (c := 0 ≤ a0 ∧ a0 ≤ a0 ∧ a0 ≤ (VE.maxLen : Int)) ((par_loop spec_l01Long_bp0 Fuel (a0, a1, (0 : Int), (List.replicate a0.toNat (Ty.zero (.int .u8))))).bind fun z1 => (par_ret _)) par_none)

def spec_l03Zero_d  (k : ByteArray → Option Res) : Option Res :=
  spec_l01Long_k (64 : Int) (0 : Int) (fun y1 =>
    k y1)

theorem spec_l03Zero_h : ∃ g : (ByteArray → Option Res) → Option Res, g = spec_l03Zero_d := ⟨_, rfl⟩
def spec_l03Zero_k : (ByteArray → Option Res) → Option Res := Classical.choose spec_l03Zero_h
theorem spec_l03Zero_e : spec_l03Zero_k = spec_l03Zero_d := Classical.choose_spec spec_l03Zero_h

theorem spec_l03Zero_p  : Par (spec_l03Zero_k ) := by
  rw [spec_l03Zero_e]
  unfold spec_l03Zero_d
  exact ((spec_l01Long_p (64 : Int) (0 : Int)).bind fun y1 => (par_ret _))

def spec_DiskNew_b0 (x : (Int × Int × (List ByteArray))) (k : (Int × Int × (List ByteArray)) ⊕ (Int × Int × (List ByteArray)) → Option Res) : Option Res :=
    bif (decide (x.2.1 < x.1)) then
      spec_l03Zero_k  (fun y3 =>
        if x.2.2.length + [y3].length ≤ VE.maxLen then
          k (.inl (x.1, (IntKind.wrap .i64 (x.2.1 + (1 : Int))), (x.2.2 ++ [y3])))
        else none)
    else
      k (.inr (x.1, x.2.1, x.2.2))

theorem spec_DiskNew_bp0 (x : (Int × Int × (List ByteArray))) : Par (spec_DiskNew_b0 x) := by
  unfold spec_DiskNew_b0
  exact (par_bif ((spec_l03Zero_p ).bind fun y3 => (par_ite (c := x.2.2.length + [y3].length ≤ VE.maxLen) (par_ret _) par_none)) (par_ret _))

def spec_DiskNew_d (a0 : Int) (k : (Bool × (List ByteArray)) → Option Res) : Option Res :=
  spec_l01In_k a0 (1 : Int) (100 : Int) (fun y1 =>
    bif (!y1) then
      k (false, ([] : List ByteArray))
    else
      loopK spec_DiskNew_b0 Fuel (a0, (0 : Int), ([] : List ByteArray)) (fun z2 =>
        k (true, z2.2.2)))

theorem spec_DiskNew_h : ∃ g : Int → ((Bool × (List ByteArray)) → Option Res) → Option Res, g = spec_DiskNew_d := ⟨_, rfl⟩
def spec_DiskNew_k : Int → ((Bool × (List ByteArray)) → Option Res) → Option Res := Classical.choose spec_DiskNew_h
theorem spec_DiskNew_e : spec_DiskNew_k = spec_DiskNew_d := Classical.choose_spec spec_DiskNew_h

theorem spec_DiskNew_p (a0 : Int) : Par (spec_DiskNew_k a0) := by
  rw [spec_DiskNew_e]
  unfold spec_DiskNew_d
  exact ((spec_l01In_p a0 (1 : Int) (100 : Int)).bind fun y1 => (par_bif (par_ret _) ((par_loop spec_DiskNew_bp0 Fuel (a0, (0 : Int), ([] : List ByteArray))).bind fun z2 => (par_ret _))))

def spec_LogNew_d  (k : (List ByteArray) → Option Res) : Option Res :=
  spec_l04Sectors_k  (fun y1 =>
    spec_DiskNew_k y1 (fun y2 =>
      k y2.2))

theorem spec_LogNew_h : ∃ g : ((List ByteArray) → Option Res) → Option Res, g = spec_LogNew_d := ⟨_, rfl⟩
def spec_LogNew_k : ((List ByteArray) → Option Res) → Option Res := Classical.choose spec_LogNew_h
theorem spec_LogNew_e : spec_LogNew_k = spec_LogNew_d := Classical.choose_spec spec_LogNew_h

theorem spec_LogNew_p  : Par (spec_LogNew_k ) := by
  rw [spec_LogNew_e]
  unfold spec_LogNew_d
  exact ((spec_l04Sectors_p ).bind fun y1 => ((spec_DiskNew_p y1).bind fun y2 => (par_ret _)))

def spec_StoreNew_d  (k : (Int × Int × (List ByteArray)) → Option Res) : Option Res :=
  spec_EngineNew_k  (fun y1 =>
    spec_LogNew_k  (fun y2 =>
      k (y1.1, y1.2, y2)))

theorem spec_StoreNew_h : ∃ g : ((Int × Int × (List ByteArray)) → Option Res) → Option Res, g = spec_StoreNew_d := ⟨_, rfl⟩
def spec_StoreNew_k : ((Int × Int × (List ByteArray)) → Option Res) → Option Res := Classical.choose spec_StoreNew_h
theorem spec_StoreNew_e : spec_StoreNew_k = spec_StoreNew_d := Classical.choose_spec spec_StoreNew_h

theorem spec_StoreNew_p  : Par (spec_StoreNew_k ) := by
  rw [spec_StoreNew_e]
  unfold spec_StoreNew_d
  exact ((spec_EngineNew_p ).bind fun y1 => ((spec_LogNew_p ).bind fun y2 => (par_ret _)))

def impl_BaseNew_d  (k : (Int × Int) → Option Res) : Option Res :=
  k ((0 : Int), (1 : Int))

theorem impl_BaseNew_h : ∃ g : ((Int × Int) → Option Res) → Option Res, g = impl_BaseNew_d := ⟨_, rfl⟩
def impl_BaseNew_k : ((Int × Int) → Option Res) → Option Res := Classical.choose impl_BaseNew_h
theorem impl_BaseNew_e : impl_BaseNew_k = impl_BaseNew_d := Classical.choose_spec impl_BaseNew_h

theorem impl_BaseNew_p  : Par (impl_BaseNew_k ) := by
  rw [impl_BaseNew_e]
  unfold impl_BaseNew_d
  exact (par_ret _)

def impl_EngineNew_d  (k : (Int × Int) → Option Res) : Option Res :=
  impl_BaseNew_k  (fun y1 =>
    k (y1.1, y1.2))

theorem impl_EngineNew_h : ∃ g : ((Int × Int) → Option Res) → Option Res, g = impl_EngineNew_d := ⟨_, rfl⟩
def impl_EngineNew_k : ((Int × Int) → Option Res) → Option Res := Classical.choose impl_EngineNew_h
theorem impl_EngineNew_e : impl_EngineNew_k = impl_EngineNew_d := Classical.choose_spec impl_EngineNew_h

theorem impl_EngineNew_p  : Par (impl_EngineNew_k ) := by
  rw [impl_EngineNew_e]
  unfold impl_EngineNew_d
  exact ((impl_BaseNew_p ).bind fun y1 => (par_ret _))

def impl_within_d (a0 : Int) (a1 : Int) (a2 : Int) (k : Bool → Option Res) : Option Res :=
  bif (decide (a0 ≥ a1)) then
    k (decide (a0 ≤ a2))
  else
    k false

theorem impl_within_h : ∃ g : Int → Int → Int → (Bool → Option Res) → Option Res, g = impl_within_d := ⟨_, rfl⟩
def impl_within_k : Int → Int → Int → (Bool → Option Res) → Option Res := Classical.choose impl_within_h
theorem impl_within_e : impl_within_k = impl_within_d := Classical.choose_spec impl_within_h

theorem impl_within_p (a0 : Int) (a1 : Int) (a2 : Int) : Par (impl_within_k a0 a1 a2) := by
  rw [impl_within_e]
  unfold impl_within_d
  exact (par_bif (par_ret _) (par_ret _))

def strings_Repeat_d (a0 : ByteArray) (a1 : Int) (k : ByteArray → Option Res) : Option Res :=
  if 0 ≤ a1 ∧ a1 ≤ 9223372036854775807 ∧ a0.size * a1.toNat ≤ 140737488355328 then
    k (repB a0 a1)
  else none

theorem strings_Repeat_h : ∃ g : ByteArray → Int → (ByteArray → Option Res) → Option Res, g = strings_Repeat_d := ⟨_, rfl⟩
def strings_Repeat_k : ByteArray → Int → (ByteArray → Option Res) → Option Res := Classical.choose strings_Repeat_h
theorem strings_Repeat_e : strings_Repeat_k = strings_Repeat_d := Classical.choose_spec strings_Repeat_h

theorem strings_Repeat_p (a0 : ByteArray) (a1 : Int) : Par (strings_Repeat_k a0 a1) := by
  rw [strings_Repeat_e]
  unfold strings_Repeat_d
  exact (par_ite (c := 0 ≤ a1 ∧ a1 ≤ 9223372036854775807 ∧ a0.size * a1.toNat ≤ 140737488355328) (par_ret _) par_none)

def impl_DiskNew_b0 (x : (Int × Int × (List ByteArray))) (k : (Int × Int × (List ByteArray)) ⊕ (Int × Int × (List ByteArray)) → Option Res) : Option Res :=
    bif (decide (x.2.1 < x.1)) then
      strings_Repeat_k (⟨#[0]⟩ : ByteArray) (64 : Int) (fun y3 =>
        if x.2.2.length + [y3].length ≤ VE.maxLen then
          k (.inl (x.1, (IntKind.wrap .i64 (x.2.1 + (1 : Int))), (x.2.2 ++ [y3])))
        else none)
    else
      k (.inr (x.1, x.2.1, x.2.2))

theorem impl_DiskNew_bp0 (x : (Int × Int × (List ByteArray))) : Par (impl_DiskNew_b0 x) := by
  unfold impl_DiskNew_b0
  exact (par_bif ((strings_Repeat_p (⟨#[0]⟩ : ByteArray) (64 : Int)).bind fun y3 => (par_ite (c := x.2.2.length + [y3].length ≤ VE.maxLen) (par_ret _) par_none)) (par_ret _))

def impl_DiskNew_d (a0 : Int) (k : (Bool × (List ByteArray)) → Option Res) : Option Res :=
  impl_within_k a0 (1 : Int) (100 : Int) (fun y1 =>
    bif (!y1) then
      k (false, ([] : List ByteArray))
    else
      loopK impl_DiskNew_b0 Fuel (a0, (0 : Int), ([] : List ByteArray)) (fun z2 =>
        k (true, z2.2.2)))

theorem impl_DiskNew_h : ∃ g : Int → ((Bool × (List ByteArray)) → Option Res) → Option Res, g = impl_DiskNew_d := ⟨_, rfl⟩
def impl_DiskNew_k : Int → ((Bool × (List ByteArray)) → Option Res) → Option Res := Classical.choose impl_DiskNew_h
theorem impl_DiskNew_e : impl_DiskNew_k = impl_DiskNew_d := Classical.choose_spec impl_DiskNew_h

theorem impl_DiskNew_p (a0 : Int) : Par (impl_DiskNew_k a0) := by
  rw [impl_DiskNew_e]
  unfold impl_DiskNew_d
  exact ((impl_within_p a0 (1 : Int) (100 : Int)).bind fun y1 => (par_bif (par_ret _) ((par_loop impl_DiskNew_bp0 Fuel (a0, (0 : Int), ([] : List ByteArray))).bind fun z2 => (par_ret _))))

def impl_LogNew_d  (k : (List ByteArray) → Option Res) : Option Res :=
  impl_DiskNew_k (97 : Int) (fun y1 =>
    k y1.2)

theorem impl_LogNew_h : ∃ g : ((List ByteArray) → Option Res) → Option Res, g = impl_LogNew_d := ⟨_, rfl⟩
def impl_LogNew_k : ((List ByteArray) → Option Res) → Option Res := Classical.choose impl_LogNew_h
theorem impl_LogNew_e : impl_LogNew_k = impl_LogNew_d := Classical.choose_spec impl_LogNew_h

theorem impl_LogNew_p  : Par (impl_LogNew_k ) := by
  rw [impl_LogNew_e]
  unfold impl_LogNew_d
  exact ((impl_DiskNew_p (97 : Int)).bind fun y1 => (par_ret _))

def impl_StoreNew_d  (k : (Int × Int × (List ByteArray)) → Option Res) : Option Res :=
  impl_EngineNew_k  (fun y1 =>
    impl_LogNew_k  (fun y2 =>
      k (y1.1, y1.2, y2)))

theorem impl_StoreNew_h : ∃ g : ((Int × Int × (List ByteArray)) → Option Res) → Option Res, g = impl_StoreNew_d := ⟨_, rfl⟩
def impl_StoreNew_k : ((Int × Int × (List ByteArray)) → Option Res) → Option Res := Classical.choose impl_StoreNew_h
theorem impl_StoreNew_e : impl_StoreNew_k = impl_StoreNew_d := Classical.choose_spec impl_StoreNew_h

theorem impl_StoreNew_p  : Par (impl_StoreNew_k ) := by
  rw [impl_StoreNew_e]
  unfold impl_StoreNew_d
  exact ((impl_EngineNew_p ).bind fun y1 => ((impl_LogNew_p ).bind fun y2 => (par_ret _)))

def laws_eqVersion_d (a0 : dVersion) (a1 : dVersion) (k : Bool → Option Res) : Option Res :=
  bif (!(strEq a0.1 a1.1)) then
    k false
  else
    bif (!(strEq a0.2.1 a1.2.1)) then
      k false
    else
      bif (!(a0.2.2.1 == a1.2.2.1)) then
        k false
      else
        bif (a0.2.2.2 != a1.2.2.2) then
          k false
        else
          k true

theorem laws_eqVersion_h : ∃ g : dVersion → dVersion → (Bool → Option Res) → Option Res, g = laws_eqVersion_d := ⟨_, rfl⟩
def laws_eqVersion_k : dVersion → dVersion → (Bool → Option Res) → Option Res := Classical.choose laws_eqVersion_h
theorem laws_eqVersion_e : laws_eqVersion_k = laws_eqVersion_d := Classical.choose_spec laws_eqVersion_h

theorem laws_eqVersion_p (a0 : dVersion) (a1 : dVersion) : Par (laws_eqVersion_k a0 a1) := by
  rw [laws_eqVersion_e]
  unfold laws_eqVersion_d
  exact (par_bif (par_ret _) (par_bif (par_ret _) (par_bif (par_ret _) (par_bif (par_ret _) (par_ret _)))))

def laws_eqVersionS_b0 (x : ((List dVersion) × (List dVersion) × Bool × Int)) (k : ((List dVersion) × (List dVersion) × Bool × Int) ⊕ (((List dVersion) × (List dVersion) × Bool × Int) ⊕ ((List dVersion) × (List dVersion) × Bool × Int)) → Option Res) : Option Res :=
    bif (decide (x.2.2.2 < (x.1.length : Int))) then
      if 0 ≤ x.2.2.2 ∧ x.2.2.2 < (x.1.length : Int) then
        if 0 ≤ x.2.2.2 ∧ x.2.2.2 < (x.2.1.length : Int) then
          laws_eqVersion_k (rd (Ty.zero tVersion) x.1 x.2.2.2) (rd (Ty.zero tVersion) x.2.1 x.2.2.2) (fun y3 =>
            bif (!y3) then
              k (.inr (.inl (x.1, x.2.1, false, x.2.2.2)))
            else
              k (.inl (x.1, x.2.1, x.2.2.1, (IntKind.wrap .i64 (x.2.2.2 + (1 : Int))))))
        else none
      else none
    else
      k (.inr (.inr (x.1, x.2.1, x.2.2.1, x.2.2.2)))

theorem laws_eqVersionS_bp0 (x : ((List dVersion) × (List dVersion) × Bool × Int)) : Par (laws_eqVersionS_b0 x) := by
  unfold laws_eqVersionS_b0
  exact (par_bif (par_ite (c := 0 ≤ x.2.2.2 ∧ x.2.2.2 < (x.1.length : Int)) (par_ite (c := 0 ≤ x.2.2.2 ∧ x.2.2.2 < (x.2.1.length : Int)) ((laws_eqVersion_p (rd (Ty.zero tVersion) x.1 x.2.2.2) (rd (Ty.zero tVersion) x.2.1 x.2.2.2)).bind fun y3 => (par_bif (par_ret _) (par_ret _))) par_none) par_none) (par_ret _))

def laws_eqVersionS_d (a0 : (List dVersion)) (a1 : (List dVersion)) (k : Bool → Option Res) : Option Res :=
  bif ((a0.length : Int) != (a1.length : Int)) then
    k false
  else
    loopK laws_eqVersionS_b0 Fuel (a0, a1, false, (0 : Int)) (Sum.elim (fun z1 =>
      k z1.2.2.1) (fun _ =>
      k true))

theorem laws_eqVersionS_h : ∃ g : (List dVersion) → (List dVersion) → (Bool → Option Res) → Option Res, g = laws_eqVersionS_d := ⟨_, rfl⟩
def laws_eqVersionS_k : (List dVersion) → (List dVersion) → (Bool → Option Res) → Option Res := Classical.choose laws_eqVersionS_h
theorem laws_eqVersionS_e : laws_eqVersionS_k = laws_eqVersionS_d := Classical.choose_spec laws_eqVersionS_h

theorem laws_eqVersionS_p (a0 : (List dVersion)) (a1 : (List dVersion)) : Par (laws_eqVersionS_k a0 a1) := by
  rw [laws_eqVersionS_e]
  unfold laws_eqVersionS_d
  exact (par_bif (par_ret _) ((par_loop laws_eqVersionS_bp0 Fuel (a0, a1, false, (0 : Int))).bind2 (fun z1 => (par_ret _)) (fun z2 => (par_ret _))))

def laws_eqRange_d (a0 : dRange) (a1 : dRange) (k : Bool → Option Res) : Option Res :=
  bif (!(strEq a0.1 a1.1)) then
    k false
  else
    bif (!(strEq a0.2 a1.2)) then
      k false
    else
      k true

theorem laws_eqRange_h : ∃ g : dRange → dRange → (Bool → Option Res) → Option Res, g = laws_eqRange_d := ⟨_, rfl⟩
def laws_eqRange_k : dRange → dRange → (Bool → Option Res) → Option Res := Classical.choose laws_eqRange_h
theorem laws_eqRange_e : laws_eqRange_k = laws_eqRange_d := Classical.choose_spec laws_eqRange_h

theorem laws_eqRange_p (a0 : dRange) (a1 : dRange) : Par (laws_eqRange_k a0 a1) := by
  rw [laws_eqRange_e]
  unfold laws_eqRange_d
  exact (par_bif (par_ret _) (par_bif (par_ret _) (par_ret _)))

def laws_eqRangeS_b0 (x : ((List dRange) × (List dRange) × Bool × Int)) (k : ((List dRange) × (List dRange) × Bool × Int) ⊕ (((List dRange) × (List dRange) × Bool × Int) ⊕ ((List dRange) × (List dRange) × Bool × Int)) → Option Res) : Option Res :=
    bif (decide (x.2.2.2 < (x.1.length : Int))) then
      if 0 ≤ x.2.2.2 ∧ x.2.2.2 < (x.1.length : Int) then
        if 0 ≤ x.2.2.2 ∧ x.2.2.2 < (x.2.1.length : Int) then
          laws_eqRange_k (rd (Ty.zero tRange) x.1 x.2.2.2) (rd (Ty.zero tRange) x.2.1 x.2.2.2) (fun y3 =>
            bif (!y3) then
              k (.inr (.inl (x.1, x.2.1, false, x.2.2.2)))
            else
              k (.inl (x.1, x.2.1, x.2.2.1, (IntKind.wrap .i64 (x.2.2.2 + (1 : Int))))))
        else none
      else none
    else
      k (.inr (.inr (x.1, x.2.1, x.2.2.1, x.2.2.2)))

theorem laws_eqRangeS_bp0 (x : ((List dRange) × (List dRange) × Bool × Int)) : Par (laws_eqRangeS_b0 x) := by
  unfold laws_eqRangeS_b0
  exact (par_bif (par_ite (c := 0 ≤ x.2.2.2 ∧ x.2.2.2 < (x.1.length : Int)) (par_ite (c := 0 ≤ x.2.2.2 ∧ x.2.2.2 < (x.2.1.length : Int)) ((laws_eqRange_p (rd (Ty.zero tRange) x.1 x.2.2.2) (rd (Ty.zero tRange) x.2.1 x.2.2.2)).bind fun y3 => (par_bif (par_ret _) (par_ret _))) par_none) par_none) (par_ret _))

def laws_eqRangeS_d (a0 : (List dRange)) (a1 : (List dRange)) (k : Bool → Option Res) : Option Res :=
  bif ((a0.length : Int) != (a1.length : Int)) then
    k false
  else
    loopK laws_eqRangeS_b0 Fuel (a0, a1, false, (0 : Int)) (Sum.elim (fun z1 =>
      k z1.2.2.1) (fun _ =>
      k true))

theorem laws_eqRangeS_h : ∃ g : (List dRange) → (List dRange) → (Bool → Option Res) → Option Res, g = laws_eqRangeS_d := ⟨_, rfl⟩
def laws_eqRangeS_k : (List dRange) → (List dRange) → (Bool → Option Res) → Option Res := Classical.choose laws_eqRangeS_h
theorem laws_eqRangeS_e : laws_eqRangeS_k = laws_eqRangeS_d := Classical.choose_spec laws_eqRangeS_h

theorem laws_eqRangeS_p (a0 : (List dRange)) (a1 : (List dRange)) : Par (laws_eqRangeS_k a0 a1) := by
  rw [laws_eqRangeS_e]
  unfold laws_eqRangeS_d
  exact (par_bif (par_ret _) ((par_loop laws_eqRangeS_bp0 Fuel (a0, a1, false, (0 : Int))).bind2 (fun z1 => (par_ret _)) (fun z2 => (par_ret _))))

def laws_eqWrite_d (a0 : dWrite) (a1 : dWrite) (k : Bool → Option Res) : Option Res :=
  bif (!(strEq a0.1 a1.1)) then
    k false
  else
    bif (!(strEq a0.2.1 a1.2.1)) then
      k false
    else
      bif (!(a0.2.2 == a1.2.2)) then
        k false
      else
        k true

theorem laws_eqWrite_h : ∃ g : dWrite → dWrite → (Bool → Option Res) → Option Res, g = laws_eqWrite_d := ⟨_, rfl⟩
def laws_eqWrite_k : dWrite → dWrite → (Bool → Option Res) → Option Res := Classical.choose laws_eqWrite_h
theorem laws_eqWrite_e : laws_eqWrite_k = laws_eqWrite_d := Classical.choose_spec laws_eqWrite_h

theorem laws_eqWrite_p (a0 : dWrite) (a1 : dWrite) : Par (laws_eqWrite_k a0 a1) := by
  rw [laws_eqWrite_e]
  unfold laws_eqWrite_d
  exact (par_bif (par_ret _) (par_bif (par_ret _) (par_bif (par_ret _) (par_ret _))))

def laws_eqWriteS_b0 (x : ((List dWrite) × (List dWrite) × Bool × Int)) (k : ((List dWrite) × (List dWrite) × Bool × Int) ⊕ (((List dWrite) × (List dWrite) × Bool × Int) ⊕ ((List dWrite) × (List dWrite) × Bool × Int)) → Option Res) : Option Res :=
    bif (decide (x.2.2.2 < (x.1.length : Int))) then
      if 0 ≤ x.2.2.2 ∧ x.2.2.2 < (x.1.length : Int) then
        if 0 ≤ x.2.2.2 ∧ x.2.2.2 < (x.2.1.length : Int) then
          laws_eqWrite_k (rd (Ty.zero tWrite) x.1 x.2.2.2) (rd (Ty.zero tWrite) x.2.1 x.2.2.2) (fun y3 =>
            bif (!y3) then
              k (.inr (.inl (x.1, x.2.1, false, x.2.2.2)))
            else
              k (.inl (x.1, x.2.1, x.2.2.1, (IntKind.wrap .i64 (x.2.2.2 + (1 : Int))))))
        else none
      else none
    else
      k (.inr (.inr (x.1, x.2.1, x.2.2.1, x.2.2.2)))

theorem laws_eqWriteS_bp0 (x : ((List dWrite) × (List dWrite) × Bool × Int)) : Par (laws_eqWriteS_b0 x) := by
  unfold laws_eqWriteS_b0
  exact (par_bif (par_ite (c := 0 ≤ x.2.2.2 ∧ x.2.2.2 < (x.1.length : Int)) (par_ite (c := 0 ≤ x.2.2.2 ∧ x.2.2.2 < (x.2.1.length : Int)) ((laws_eqWrite_p (rd (Ty.zero tWrite) x.1 x.2.2.2) (rd (Ty.zero tWrite) x.2.1 x.2.2.2)).bind fun y3 => (par_bif (par_ret _) (par_ret _))) par_none) par_none) (par_ret _))

def laws_eqWriteS_d (a0 : (List dWrite)) (a1 : (List dWrite)) (k : Bool → Option Res) : Option Res :=
  bif ((a0.length : Int) != (a1.length : Int)) then
    k false
  else
    loopK laws_eqWriteS_b0 Fuel (a0, a1, false, (0 : Int)) (Sum.elim (fun z1 =>
      k z1.2.2.1) (fun _ =>
      k true))

theorem laws_eqWriteS_h : ∃ g : (List dWrite) → (List dWrite) → (Bool → Option Res) → Option Res, g = laws_eqWriteS_d := ⟨_, rfl⟩
def laws_eqWriteS_k : (List dWrite) → (List dWrite) → (Bool → Option Res) → Option Res := Classical.choose laws_eqWriteS_h
theorem laws_eqWriteS_e : laws_eqWriteS_k = laws_eqWriteS_d := Classical.choose_spec laws_eqWriteS_h

theorem laws_eqWriteS_p (a0 : (List dWrite)) (a1 : (List dWrite)) : Par (laws_eqWriteS_k a0 a1) := by
  rw [laws_eqWriteS_e]
  unfold laws_eqWriteS_d
  exact (par_bif (par_ret _) ((par_loop laws_eqWriteS_bp0 Fuel (a0, a1, false, (0 : Int))).bind2 (fun z1 => (par_ret _)) (fun z2 => (par_ret _))))

def laws_eqTxn_d (a0 : dTxn) (a1 : dTxn) (k : Bool → Option Res) : Option Res :=
  bif (a0.1 != a1.1) then
    k false
  else
    bif (a0.2.1 != a1.2.1) then
      k false
    else
      bif (a0.2.2.1 != a1.2.2.1) then
        k false
      else
        bif (a0.2.2.2.1 != a1.2.2.2.1) then
          k false
        else
          laws_eqRangeS_k a0.2.2.2.2.1 a1.2.2.2.2.1 (fun y1 =>
            bif (!y1) then
              k false
            else
              laws_eqWriteS_k a0.2.2.2.2.2.1 a1.2.2.2.2.2.1 (fun y2 =>
                bif (!y2) then
                  k false
                else
                  bif (!(a0.2.2.2.2.2.2.1 == a1.2.2.2.2.2.2.1)) then
                    k false
                  else
                    bif (!(strEq a0.2.2.2.2.2.2.2 a1.2.2.2.2.2.2.2)) then
                      k false
                    else
                      k true))

theorem laws_eqTxn_h : ∃ g : dTxn → dTxn → (Bool → Option Res) → Option Res, g = laws_eqTxn_d := ⟨_, rfl⟩
def laws_eqTxn_k : dTxn → dTxn → (Bool → Option Res) → Option Res := Classical.choose laws_eqTxn_h
theorem laws_eqTxn_e : laws_eqTxn_k = laws_eqTxn_d := Classical.choose_spec laws_eqTxn_h

theorem laws_eqTxn_p (a0 : dTxn) (a1 : dTxn) : Par (laws_eqTxn_k a0 a1) := by
  rw [laws_eqTxn_e]
  unfold laws_eqTxn_d
  exact (par_bif (par_ret _) (par_bif (par_ret _) (par_bif (par_ret _) (par_bif (par_ret _) ((laws_eqRangeS_p a0.2.2.2.2.1 a1.2.2.2.2.1).bind fun y1 => (par_bif (par_ret _) ((laws_eqWriteS_p a0.2.2.2.2.2.1 a1.2.2.2.2.2.1).bind fun y2 => (par_bif (par_ret _) (par_bif (par_ret _) (par_bif (par_ret _) (par_ret _)))))))))))

def laws_eqTxnS_b0 (x : ((List dTxn) × (List dTxn) × Bool × Int)) (k : ((List dTxn) × (List dTxn) × Bool × Int) ⊕ (((List dTxn) × (List dTxn) × Bool × Int) ⊕ ((List dTxn) × (List dTxn) × Bool × Int)) → Option Res) : Option Res :=
    bif (decide (x.2.2.2 < (x.1.length : Int))) then
      if 0 ≤ x.2.2.2 ∧ x.2.2.2 < (x.1.length : Int) then
        if 0 ≤ x.2.2.2 ∧ x.2.2.2 < (x.2.1.length : Int) then
          laws_eqTxn_k (rd (Ty.zero tTxn) x.1 x.2.2.2) (rd (Ty.zero tTxn) x.2.1 x.2.2.2) (fun y3 =>
            bif (!y3) then
              k (.inr (.inl (x.1, x.2.1, false, x.2.2.2)))
            else
              k (.inl (x.1, x.2.1, x.2.2.1, (IntKind.wrap .i64 (x.2.2.2 + (1 : Int))))))
        else none
      else none
    else
      k (.inr (.inr (x.1, x.2.1, x.2.2.1, x.2.2.2)))

theorem laws_eqTxnS_bp0 (x : ((List dTxn) × (List dTxn) × Bool × Int)) : Par (laws_eqTxnS_b0 x) := by
  unfold laws_eqTxnS_b0
  exact (par_bif (par_ite (c := 0 ≤ x.2.2.2 ∧ x.2.2.2 < (x.1.length : Int)) (par_ite (c := 0 ≤ x.2.2.2 ∧ x.2.2.2 < (x.2.1.length : Int)) ((laws_eqTxn_p (rd (Ty.zero tTxn) x.1 x.2.2.2) (rd (Ty.zero tTxn) x.2.1 x.2.2.2)).bind fun y3 => (par_bif (par_ret _) (par_ret _))) par_none) par_none) (par_ret _))

def laws_eqTxnS_d (a0 : (List dTxn)) (a1 : (List dTxn)) (k : Bool → Option Res) : Option Res :=
  bif ((a0.length : Int) != (a1.length : Int)) then
    k false
  else
    loopK laws_eqTxnS_b0 Fuel (a0, a1, false, (0 : Int)) (Sum.elim (fun z1 =>
      k z1.2.2.1) (fun _ =>
      k true))

theorem laws_eqTxnS_h : ∃ g : (List dTxn) → (List dTxn) → (Bool → Option Res) → Option Res, g = laws_eqTxnS_d := ⟨_, rfl⟩
def laws_eqTxnS_k : (List dTxn) → (List dTxn) → (Bool → Option Res) → Option Res := Classical.choose laws_eqTxnS_h
theorem laws_eqTxnS_e : laws_eqTxnS_k = laws_eqTxnS_d := Classical.choose_spec laws_eqTxnS_h

theorem laws_eqTxnS_p (a0 : (List dTxn)) (a1 : (List dTxn)) : Par (laws_eqTxnS_k a0 a1) := by
  rw [laws_eqTxnS_e]
  unfold laws_eqTxnS_d
  exact (par_bif (par_ret _) ((par_loop laws_eqTxnS_bp0 Fuel (a0, a1, false, (0 : Int))).bind2 (fun z1 => (par_ret _)) (fun z2 => (par_ret _))))

def laws_eqBase_d (a0 : dBase) (a1 : dBase) (k : Bool → Option Res) : Option Res :=
  laws_eqVersionS_k a0.1 a1.1 (fun y1 =>
    bif (!y1) then
      k false
    else
      laws_eqTxnS_k a0.2.1 a1.2.1 (fun y2 =>
        bif (!y2) then
          k false
        else
          laws_eqTxnS_k a0.2.2.1 a1.2.2.1 (fun y3 =>
            bif (!y3) then
              k false
            else
              bif (a0.2.2.2.1 != a1.2.2.2.1) then
                k false
              else
                bif (a0.2.2.2.2 != a1.2.2.2.2) then
                  k false
                else
                  k true)))

theorem laws_eqBase_h : ∃ g : dBase → dBase → (Bool → Option Res) → Option Res, g = laws_eqBase_d := ⟨_, rfl⟩
def laws_eqBase_k : dBase → dBase → (Bool → Option Res) → Option Res := Classical.choose laws_eqBase_h
theorem laws_eqBase_e : laws_eqBase_k = laws_eqBase_d := Classical.choose_spec laws_eqBase_h

theorem laws_eqBase_p (a0 : dBase) (a1 : dBase) : Par (laws_eqBase_k a0 a1) := by
  rw [laws_eqBase_e]
  unfold laws_eqBase_d
  exact ((laws_eqVersionS_p a0.1 a1.1).bind fun y1 => (par_bif (par_ret _) ((laws_eqTxnS_p a0.2.1 a1.2.1).bind fun y2 => (par_bif (par_ret _) ((laws_eqTxnS_p a0.2.2.1 a1.2.2.1).bind fun y3 => (par_bif (par_ret _) (par_bif (par_ret _) (par_bif (par_ret _) (par_ret _)))))))))

def laws_eqEngine_d (a0 : dEngine) (a1 : dEngine) (k : Bool → Option Res) : Option Res :=
  laws_eqBase_k a0.1 a1.1 (fun y1 =>
    bif (!y1) then
      k false
    else
      laws_eqTxnS_k a0.2 a1.2 (fun y2 =>
        bif (!y2) then
          k false
        else
          k true))

theorem laws_eqEngine_h : ∃ g : dEngine → dEngine → (Bool → Option Res) → Option Res, g = laws_eqEngine_d := ⟨_, rfl⟩
def laws_eqEngine_k : dEngine → dEngine → (Bool → Option Res) → Option Res := Classical.choose laws_eqEngine_h
theorem laws_eqEngine_e : laws_eqEngine_k = laws_eqEngine_d := Classical.choose_spec laws_eqEngine_h

theorem laws_eqEngine_p (a0 : dEngine) (a1 : dEngine) : Par (laws_eqEngine_k a0 a1) := by
  rw [laws_eqEngine_e]
  unfold laws_eqEngine_d
  exact ((laws_eqBase_p a0.1 a1.1).bind fun y1 => (par_bif (par_ret _) ((laws_eqTxnS_p a0.2 a1.2).bind fun y2 => (par_bif (par_ret _) (par_ret _)))))

def laws_eqStringS_b0 (x : ((List ByteArray) × (List ByteArray) × Bool × Int)) (k : ((List ByteArray) × (List ByteArray) × Bool × Int) ⊕ (((List ByteArray) × (List ByteArray) × Bool × Int) ⊕ ((List ByteArray) × (List ByteArray) × Bool × Int)) → Option Res) : Option Res :=
    bif (decide (x.2.2.2 < (x.1.length : Int))) then
      if 0 ≤ x.2.2.2 ∧ x.2.2.2 < (x.1.length : Int) then
        if 0 ≤ x.2.2.2 ∧ x.2.2.2 < (x.2.1.length : Int) then
          bif (!(strEq (rd (Ty.zero .str) x.1 x.2.2.2) (rd (Ty.zero .str) x.2.1 x.2.2.2))) then
            k (.inr (.inl (x.1, x.2.1, false, x.2.2.2)))
          else
            k (.inl (x.1, x.2.1, x.2.2.1, (IntKind.wrap .i64 (x.2.2.2 + (1 : Int)))))
        else none
      else none
    else
      k (.inr (.inr (x.1, x.2.1, x.2.2.1, x.2.2.2)))

theorem laws_eqStringS_bp0 (x : ((List ByteArray) × (List ByteArray) × Bool × Int)) : Par (laws_eqStringS_b0 x) := by
  unfold laws_eqStringS_b0
  exact (par_bif (par_ite (c := 0 ≤ x.2.2.2 ∧ x.2.2.2 < (x.1.length : Int)) (par_ite (c := 0 ≤ x.2.2.2 ∧ x.2.2.2 < (x.2.1.length : Int)) (par_bif (par_ret _) (par_ret _)) par_none) par_none) (par_ret _))

def laws_eqStringS_d (a0 : (List ByteArray)) (a1 : (List ByteArray)) (k : Bool → Option Res) : Option Res :=
  bif ((a0.length : Int) != (a1.length : Int)) then
    k false
  else
    loopK laws_eqStringS_b0 Fuel (a0, a1, false, (0 : Int)) (Sum.elim (fun z1 =>
      k z1.2.2.1) (fun _ =>
      k true))

theorem laws_eqStringS_h : ∃ g : (List ByteArray) → (List ByteArray) → (Bool → Option Res) → Option Res, g = laws_eqStringS_d := ⟨_, rfl⟩
def laws_eqStringS_k : (List ByteArray) → (List ByteArray) → (Bool → Option Res) → Option Res := Classical.choose laws_eqStringS_h
theorem laws_eqStringS_e : laws_eqStringS_k = laws_eqStringS_d := Classical.choose_spec laws_eqStringS_h

theorem laws_eqStringS_p (a0 : (List ByteArray)) (a1 : (List ByteArray)) : Par (laws_eqStringS_k a0 a1) := by
  rw [laws_eqStringS_e]
  unfold laws_eqStringS_d
  exact (par_bif (par_ret _) ((par_loop laws_eqStringS_bp0 Fuel (a0, a1, false, (0 : Int))).bind2 (fun z1 => (par_ret _)) (fun z2 => (par_ret _))))

def laws_eqPut_d (a0 : dPut) (a1 : dPut) (k : Bool → Option Res) : Option Res :=
  bif (a0.1 != a1.1) then
    k false
  else
    bif (!(strEq a0.2 a1.2)) then
      k false
    else
      k true

theorem laws_eqPut_h : ∃ g : dPut → dPut → (Bool → Option Res) → Option Res, g = laws_eqPut_d := ⟨_, rfl⟩
def laws_eqPut_k : dPut → dPut → (Bool → Option Res) → Option Res := Classical.choose laws_eqPut_h
theorem laws_eqPut_e : laws_eqPut_k = laws_eqPut_d := Classical.choose_spec laws_eqPut_h

theorem laws_eqPut_p (a0 : dPut) (a1 : dPut) : Par (laws_eqPut_k a0 a1) := by
  rw [laws_eqPut_e]
  unfold laws_eqPut_d
  exact (par_bif (par_ret _) (par_bif (par_ret _) (par_ret _)))

def laws_eqPutS_b0 (x : ((List dPut) × (List dPut) × Bool × Int)) (k : ((List dPut) × (List dPut) × Bool × Int) ⊕ (((List dPut) × (List dPut) × Bool × Int) ⊕ ((List dPut) × (List dPut) × Bool × Int)) → Option Res) : Option Res :=
    bif (decide (x.2.2.2 < (x.1.length : Int))) then
      if 0 ≤ x.2.2.2 ∧ x.2.2.2 < (x.1.length : Int) then
        if 0 ≤ x.2.2.2 ∧ x.2.2.2 < (x.2.1.length : Int) then
          laws_eqPut_k (rd (Ty.zero tPut) x.1 x.2.2.2) (rd (Ty.zero tPut) x.2.1 x.2.2.2) (fun y3 =>
            bif (!y3) then
              k (.inr (.inl (x.1, x.2.1, false, x.2.2.2)))
            else
              k (.inl (x.1, x.2.1, x.2.2.1, (IntKind.wrap .i64 (x.2.2.2 + (1 : Int))))))
        else none
      else none
    else
      k (.inr (.inr (x.1, x.2.1, x.2.2.1, x.2.2.2)))

theorem laws_eqPutS_bp0 (x : ((List dPut) × (List dPut) × Bool × Int)) : Par (laws_eqPutS_b0 x) := by
  unfold laws_eqPutS_b0
  exact (par_bif (par_ite (c := 0 ≤ x.2.2.2 ∧ x.2.2.2 < (x.1.length : Int)) (par_ite (c := 0 ≤ x.2.2.2 ∧ x.2.2.2 < (x.2.1.length : Int)) ((laws_eqPut_p (rd (Ty.zero tPut) x.1 x.2.2.2) (rd (Ty.zero tPut) x.2.1 x.2.2.2)).bind fun y3 => (par_bif (par_ret _) (par_ret _))) par_none) par_none) (par_ret _))

def laws_eqPutS_d (a0 : (List dPut)) (a1 : (List dPut)) (k : Bool → Option Res) : Option Res :=
  bif ((a0.length : Int) != (a1.length : Int)) then
    k false
  else
    loopK laws_eqPutS_b0 Fuel (a0, a1, false, (0 : Int)) (Sum.elim (fun z1 =>
      k z1.2.2.1) (fun _ =>
      k true))

theorem laws_eqPutS_h : ∃ g : (List dPut) → (List dPut) → (Bool → Option Res) → Option Res, g = laws_eqPutS_d := ⟨_, rfl⟩
def laws_eqPutS_k : (List dPut) → (List dPut) → (Bool → Option Res) → Option Res := Classical.choose laws_eqPutS_h
theorem laws_eqPutS_e : laws_eqPutS_k = laws_eqPutS_d := Classical.choose_spec laws_eqPutS_h

theorem laws_eqPutS_p (a0 : (List dPut)) (a1 : (List dPut)) : Par (laws_eqPutS_k a0 a1) := by
  rw [laws_eqPutS_e]
  unfold laws_eqPutS_d
  exact (par_bif (par_ret _) ((par_loop laws_eqPutS_bp0 Fuel (a0, a1, false, (0 : Int))).bind2 (fun z1 => (par_ret _)) (fun z2 => (par_ret _))))

def laws_eqDisk_d (a0 : dDisk) (a1 : dDisk) (k : Bool → Option Res) : Option Res :=
  laws_eqStringS_k a0.1 a1.1 (fun y1 =>
    bif (!y1) then
      k false
    else
      laws_eqPutS_k a0.2 a1.2 (fun y2 =>
        bif (!y2) then
          k false
        else
          k true))

theorem laws_eqDisk_h : ∃ g : dDisk → dDisk → (Bool → Option Res) → Option Res, g = laws_eqDisk_d := ⟨_, rfl⟩
def laws_eqDisk_k : dDisk → dDisk → (Bool → Option Res) → Option Res := Classical.choose laws_eqDisk_h
theorem laws_eqDisk_e : laws_eqDisk_k = laws_eqDisk_d := Classical.choose_spec laws_eqDisk_h

theorem laws_eqDisk_p (a0 : dDisk) (a1 : dDisk) : Par (laws_eqDisk_k a0 a1) := by
  rw [laws_eqDisk_e]
  unfold laws_eqDisk_d
  exact ((laws_eqStringS_p a0.1 a1.1).bind fun y1 => (par_bif (par_ret _) ((laws_eqPutS_p a0.2 a1.2).bind fun y2 => (par_bif (par_ret _) (par_ret _)))))

def laws_eqStore_d (a0 : dStore) (a1 : dStore) (k : Bool → Option Res) : Option Res :=
  laws_eqEngine_k a0.1 a1.1 (fun y1 =>
    bif (!y1) then
      k false
    else
      laws_eqDisk_k a0.2 a1.2 (fun y2 =>
        bif (!y2) then
          k false
        else
          k true))

theorem laws_eqStore_h : ∃ g : dStore → dStore → (Bool → Option Res) → Option Res, g = laws_eqStore_d := ⟨_, rfl⟩
def laws_eqStore_k : dStore → dStore → (Bool → Option Res) → Option Res := Classical.choose laws_eqStore_h
theorem laws_eqStore_e : laws_eqStore_k = laws_eqStore_d := Classical.choose_spec laws_eqStore_h

theorem laws_eqStore_p (a0 : dStore) (a1 : dStore) : Par (laws_eqStore_k a0 a1) := by
  rw [laws_eqStore_e]
  unfold laws_eqStore_d
  exact ((laws_eqEngine_p a0.1 a1.1).bind fun y1 => (par_bif (par_ret _) ((laws_eqDisk_p a0.2 a1.2).bind fun y2 => (par_bif (par_ret _) (par_ret _)))))

def laws_markText_b0 (x : (Int × ByteArray)) (k : (Int × ByteArray) ⊕ (Int × ByteArray) → Option Res) : Option Res :=
    bif (decide (x.1 > (0 : Int))) then
      if (bytesOf [(IntKind.wrap .u8 (IntKind.wrap .i64 ((48 : Int) + (x.1.tmod (10 : Int)))))]).size + x.2.size ≤ 1099511627776 then
        k (.inl ((IntKind.wrap .i64 (x.1.tdiv (10 : Int))), ((bytesOf [(IntKind.wrap .u8 (IntKind.wrap .i64 ((48 : Int) + (x.1.tmod (10 : Int)))))]) ++ x.2)))
      else none
    else
      k (.inr (x.1, x.2))

theorem laws_markText_bp0 (x : (Int × ByteArray)) : Par (laws_markText_b0 x) := by
  unfold laws_markText_b0
  exact (par_bif (par_ite (c := (bytesOf [(IntKind.wrap .u8 (IntKind.wrap .i64 ((48 : Int) + (x.1.tmod (10 : Int)))))]).size + x.2.size ≤ 1099511627776) (par_ret _) par_none) (par_ret _))

def laws_markText_d (a0 : Int) (k : ByteArray → Option Res) : Option Res :=
  bif (decide (a0 ≤ (0 : Int))) then
    k (⟨#[109, 48]⟩ : ByteArray)
  else
    loopK laws_markText_b0 Fuel (a0, (⟨#[]⟩ : ByteArray)) (fun z1 =>
      if (⟨#[109]⟩ : ByteArray).size + z1.2.size ≤ 1099511627776 then
        k ((⟨#[109]⟩ : ByteArray) ++ z1.2)
      else none)

theorem laws_markText_h : ∃ g : Int → (ByteArray → Option Res) → Option Res, g = laws_markText_d := ⟨_, rfl⟩
def laws_markText_k : Int → (ByteArray → Option Res) → Option Res := Classical.choose laws_markText_h
theorem laws_markText_e : laws_markText_k = laws_markText_d := Classical.choose_spec laws_markText_h

theorem laws_markText_p (a0 : Int) : Par (laws_markText_k a0) := by
  rw [laws_markText_e]
  unfold laws_markText_d
  exact (par_bif (par_ret _) ((par_loop laws_markText_bp0 Fuel (a0, (⟨#[]⟩ : ByteArray))).bind fun z1 => (par_ite (c := (⟨#[109]⟩ : ByteArray).size + z1.2.size ≤ 1099511627776) (par_ret _) par_none)))

def laws_markVersionS_vn_b0 (x : (Int × Int)) (k : (Int × Int) ⊕ (Int × Int) → Option Res) : Option Res :=
    bif (decide (x.2 < (0 : Int))) then
      laws_markText_k x.1 (fun _ =>
        none)
    else
      k (.inr (x.1, x.2))

theorem laws_markVersionS_vn_bp0 (x : (Int × Int)) : Par (laws_markVersionS_vn_b0 x) := by
  unfold laws_markVersionS_vn_b0
  exact (par_bif ((laws_markText_p x.1).bind fun y2 => par_none) (par_ret _))

def laws_markVersionS_vn_d (a0 : Int) (k : Int → Option Res) : Option Res :=
  loopK laws_markVersionS_vn_b0 Fuel (a0, (0 : Int)) (fun z1 =>
    k z1.1)

theorem laws_markVersionS_vn_h : ∃ g : Int → (Int → Option Res) → Option Res, g = laws_markVersionS_vn_d := ⟨_, rfl⟩
def laws_markVersionS_vn_k : Int → (Int → Option Res) → Option Res := Classical.choose laws_markVersionS_vn_h
theorem laws_markVersionS_vn_e : laws_markVersionS_vn_k = laws_markVersionS_vn_d := Classical.choose_spec laws_markVersionS_vn_h

theorem laws_markVersionS_vn_p (a0 : Int) : Par (laws_markVersionS_vn_k a0) := by
  rw [laws_markVersionS_vn_e]
  unfold laws_markVersionS_vn_d
  exact ((par_loop laws_markVersionS_vn_bp0 Fuel (a0, (0 : Int))).bind fun z1 => (par_ret _))

def laws_markTxnS_vn_b0 (x : (Int × Int)) (k : (Int × Int) ⊕ (Int × Int) → Option Res) : Option Res :=
    bif (decide (x.2 < (0 : Int))) then
      none
    else
      k (.inr (x.1, x.2))

theorem laws_markTxnS_vn_bp0 (x : (Int × Int)) : Par (laws_markTxnS_vn_b0 x) := by
  unfold laws_markTxnS_vn_b0
  exact (par_bif par_none (par_ret _))

def laws_markTxnS_vn_d (a0 : Int) (k : Int → Option Res) : Option Res :=
  loopK laws_markTxnS_vn_b0 Fuel (a0, (0 : Int)) (fun z1 =>
    k z1.1)

theorem laws_markTxnS_vn_h : ∃ g : Int → (Int → Option Res) → Option Res, g = laws_markTxnS_vn_d := ⟨_, rfl⟩
def laws_markTxnS_vn_k : Int → (Int → Option Res) → Option Res := Classical.choose laws_markTxnS_vn_h
theorem laws_markTxnS_vn_e : laws_markTxnS_vn_k = laws_markTxnS_vn_d := Classical.choose_spec laws_markTxnS_vn_h

theorem laws_markTxnS_vn_p (a0 : Int) : Par (laws_markTxnS_vn_k a0) := by
  rw [laws_markTxnS_vn_e]
  unfold laws_markTxnS_vn_d
  exact ((par_loop laws_markTxnS_vn_bp0 Fuel (a0, (0 : Int))).bind fun z1 => (par_ret _))

def laws_markBase_va_d (a0 : Int) (a1 : Int) (a2 : Int) (k : Int → Option Res) : Option Res :=
  laws_markVersionS_vn_k a2 (fun y1 =>
    laws_markTxnS_vn_k y1 (fun y2 =>
      laws_markTxnS_vn_k y2 (fun y3 =>
        k y3)))

theorem laws_markBase_va_h : ∃ g : Int → Int → Int → (Int → Option Res) → Option Res, g = laws_markBase_va_d := ⟨_, rfl⟩
def laws_markBase_va_k : Int → Int → Int → (Int → Option Res) → Option Res := Classical.choose laws_markBase_va_h
theorem laws_markBase_va_e : laws_markBase_va_k = laws_markBase_va_d := Classical.choose_spec laws_markBase_va_h

theorem laws_markBase_va_p (a0 : Int) (a1 : Int) (a2 : Int) : Par (laws_markBase_va_k a0 a1 a2) := by
  rw [laws_markBase_va_e]
  unfold laws_markBase_va_d
  exact ((laws_markVersionS_vn_p a2).bind fun y1 => ((laws_markTxnS_vn_p y1).bind fun y2 => ((laws_markTxnS_vn_p y2).bind fun y3 => (par_ret _))))

def laws_markEngine_va_d (a0 : Int) (a1 : Int) (a2 : Int) (k : Int → Option Res) : Option Res :=
  laws_markBase_va_k a0 a1 a2 (fun y1 =>
    laws_markTxnS_vn_k y1 (fun y2 =>
      k y2))

theorem laws_markEngine_va_h : ∃ g : Int → Int → Int → (Int → Option Res) → Option Res, g = laws_markEngine_va_d := ⟨_, rfl⟩
def laws_markEngine_va_k : Int → Int → Int → (Int → Option Res) → Option Res := Classical.choose laws_markEngine_va_h
theorem laws_markEngine_va_e : laws_markEngine_va_k = laws_markEngine_va_d := Classical.choose_spec laws_markEngine_va_h

theorem laws_markEngine_va_p (a0 : Int) (a1 : Int) (a2 : Int) : Par (laws_markEngine_va_k a0 a1 a2) := by
  rw [laws_markEngine_va_e]
  unfold laws_markEngine_va_d
  exact ((laws_markBase_va_p a0 a1 a2).bind fun y1 => ((laws_markTxnS_vn_p y1).bind fun y2 => (par_ret _)))

def laws_markStringS_vo_b0 (x : (Int × Int × (List ByteArray))) (k : (Int × Int × (List ByteArray)) ⊕ (Int × Int × (List ByteArray)) → Option Res) : Option Res :=
    bif (decide (x.2.1 < (x.2.2.length : Int))) then
      laws_markText_k x.1 (fun y2 =>
        if 0 ≤ x.2.1 ∧ x.2.1 < (x.2.2.length : Int) then
          k (.inl ((IntKind.wrap .i64 (x.1 + (1 : Int))), (IntKind.wrap .i64 (x.2.1 + (1 : Int))), (x.2.2.set x.2.1.toNat y2)))
        else none)
    else
      k (.inr (x.1, x.2.1, x.2.2))

theorem laws_markStringS_vo_bp0 (x : (Int × Int × (List ByteArray))) : Par (laws_markStringS_vo_b0 x) := by
  unfold laws_markStringS_vo_b0
  exact (par_bif ((laws_markText_p x.1).bind fun y2 => (par_ite (c := 0 ≤ x.2.1 ∧ x.2.1 < (x.2.2.length : Int)) (par_ret _) par_none)) (par_ret _))

def laws_markStringS_vo_d (a0 : Int) (a1 : (List ByteArray)) (k : (Int × (List ByteArray)) → Option Res) : Option Res :=
  loopK laws_markStringS_vo_b0 Fuel (a0, (0 : Int), a1) (fun z1 =>
    k (z1.1, z1.2.2))

theorem laws_markStringS_vo_h : ∃ g : Int → (List ByteArray) → ((Int × (List ByteArray)) → Option Res) → Option Res, g = laws_markStringS_vo_d := ⟨_, rfl⟩
def laws_markStringS_vo_k : Int → (List ByteArray) → ((Int × (List ByteArray)) → Option Res) → Option Res := Classical.choose laws_markStringS_vo_h
theorem laws_markStringS_vo_e : laws_markStringS_vo_k = laws_markStringS_vo_d := Classical.choose_spec laws_markStringS_vo_h

theorem laws_markStringS_vo_p (a0 : Int) (a1 : (List ByteArray)) : Par (laws_markStringS_vo_k a0 a1) := by
  rw [laws_markStringS_vo_e]
  unfold laws_markStringS_vo_d
  exact ((par_loop laws_markStringS_vo_bp0 Fuel (a0, (0 : Int), a1)).bind fun z1 => (par_ret _))

def laws_markPutS_vn_b0 (x : (Int × Int)) (k : (Int × Int) ⊕ (Int × Int) → Option Res) : Option Res :=
    bif (decide (x.2 < (0 : Int))) then
      none
    else
      k (.inr (x.1, x.2))

theorem laws_markPutS_vn_bp0 (x : (Int × Int)) : Par (laws_markPutS_vn_b0 x) := by
  unfold laws_markPutS_vn_b0
  exact (par_bif par_none (par_ret _))

def laws_markPutS_vn_d (a0 : Int) (k : Int → Option Res) : Option Res :=
  loopK laws_markPutS_vn_b0 Fuel (a0, (0 : Int)) (fun z1 =>
    k z1.1)

theorem laws_markPutS_vn_h : ∃ g : Int → (Int → Option Res) → Option Res, g = laws_markPutS_vn_d := ⟨_, rfl⟩
def laws_markPutS_vn_k : Int → (Int → Option Res) → Option Res := Classical.choose laws_markPutS_vn_h
theorem laws_markPutS_vn_e : laws_markPutS_vn_k = laws_markPutS_vn_d := Classical.choose_spec laws_markPutS_vn_h

theorem laws_markPutS_vn_p (a0 : Int) : Par (laws_markPutS_vn_k a0) := by
  rw [laws_markPutS_vn_e]
  unfold laws_markPutS_vn_d
  exact ((par_loop laws_markPutS_vn_bp0 Fuel (a0, (0 : Int))).bind fun z1 => (par_ret _))

def laws_markDisk_va_d (a0 : Int) (a1 : (List ByteArray)) (k : (Int × (List ByteArray)) → Option Res) : Option Res :=
  laws_markStringS_vo_k a0 a1 (fun y1 =>
    laws_markPutS_vn_k y1.1 (fun y2 =>
      k (y2, y1.2)))

theorem laws_markDisk_va_h : ∃ g : Int → (List ByteArray) → ((Int × (List ByteArray)) → Option Res) → Option Res, g = laws_markDisk_va_d := ⟨_, rfl⟩
def laws_markDisk_va_k : Int → (List ByteArray) → ((Int × (List ByteArray)) → Option Res) → Option Res := Classical.choose laws_markDisk_va_h
theorem laws_markDisk_va_e : laws_markDisk_va_k = laws_markDisk_va_d := Classical.choose_spec laws_markDisk_va_h

theorem laws_markDisk_va_p (a0 : Int) (a1 : (List ByteArray)) : Par (laws_markDisk_va_k a0 a1) := by
  rw [laws_markDisk_va_e]
  unfold laws_markDisk_va_d
  exact ((laws_markStringS_vo_p a0 a1).bind fun y1 => ((laws_markPutS_vn_p y1.1).bind fun y2 => (par_ret _)))

def laws_markStore_va_d (a0 : Int) (a1 : Int) (a2 : Int) (a3 : (List ByteArray)) (k : (Int × (List ByteArray)) → Option Res) : Option Res :=
  laws_markEngine_va_k a0 a1 a2 (fun y1 =>
    laws_markDisk_va_k y1 a3 (fun y2 =>
      k (y2.1, y2.2)))

theorem laws_markStore_va_h : ∃ g : Int → Int → Int → (List ByteArray) → ((Int × (List ByteArray)) → Option Res) → Option Res, g = laws_markStore_va_d := ⟨_, rfl⟩
def laws_markStore_va_k : Int → Int → Int → (List ByteArray) → ((Int × (List ByteArray)) → Option Res) → Option Res := Classical.choose laws_markStore_va_h
theorem laws_markStore_va_e : laws_markStore_va_k = laws_markStore_va_d := Classical.choose_spec laws_markStore_va_h

theorem laws_markStore_va_p (a0 : Int) (a1 : Int) (a2 : Int) (a3 : (List ByteArray)) : Par (laws_markStore_va_k a0 a1 a2 a3) := by
  rw [laws_markStore_va_e]
  unfold laws_markStore_va_d
  exact ((laws_markEngine_va_p a0 a1 a2).bind fun y1 => ((laws_markDisk_va_p y1 a3).bind fun y2 => (par_ret _)))

def laws_heldVersionS_b0 (x : ((List dVersion) × Int × Int × Int)) (k : ((List dVersion) × Int × Int × Int) ⊕ (((List dVersion) × Int × Int × Int) ⊕ ((List dVersion) × Int × Int × Int)) → Option Res) : Option Res :=
    bif (decide (x.2.2.2 < (x.1.length : Int))) then
      if 0 ≤ x.2.2.2 ∧ x.2.2.2 < (x.1.length : Int) then
        laws_markText_k x.2.1 (fun y3 =>
          bif (!(strEq ((rd (Ty.zero tVersion) x.1 x.2.2.2).1) y3)) then
            k (.inr (.inl (x.1, x.2.1, (-1 : Int), x.2.2.2)))
          else
            if 0 ≤ x.2.2.2 ∧ x.2.2.2 < (x.1.length : Int) then
              laws_markText_k (IntKind.wrap .i64 (x.2.1 + (1 : Int))) (fun y4 =>
                bif (!(strEq ((rd (Ty.zero tVersion) x.1 x.2.2.2).2.1) y4)) then
                  k (.inr (.inl (x.1, (IntKind.wrap .i64 (x.2.1 + (1 : Int))), (-1 : Int), x.2.2.2)))
                else
                  if 0 ≤ x.2.2.2 ∧ x.2.2.2 < (x.1.length : Int) then
                    bif (!((rd (Ty.zero tVersion) x.1 x.2.2.2).2.2.1 == (((IntKind.wrap .i64 ((IntKind.wrap .i64 (x.2.1 + (1 : Int))) + (1 : Int))).tmod (3 : Int)) == (0 : Int)))) then
                      k (.inr (.inl (x.1, (IntKind.wrap .i64 ((IntKind.wrap .i64 (x.2.1 + (1 : Int))) + (1 : Int))), (-1 : Int), x.2.2.2)))
                    else
                      if 0 ≤ x.2.2.2 ∧ x.2.2.2 < (x.1.length : Int) then
                        bif ((rd (Ty.zero tVersion) x.1 x.2.2.2).2.2.2 != (IntKind.wrap .i64 ((IntKind.wrap .i64 ((IntKind.wrap .i64 (x.2.1 + (1 : Int))) + (1 : Int))) + (1 : Int)))) then
                          k (.inr (.inl (x.1, (IntKind.wrap .i64 ((IntKind.wrap .i64 ((IntKind.wrap .i64 (x.2.1 + (1 : Int))) + (1 : Int))) + (1 : Int))), (-1 : Int), x.2.2.2)))
                        else
                          k (.inl (x.1, (IntKind.wrap .i64 ((IntKind.wrap .i64 ((IntKind.wrap .i64 ((IntKind.wrap .i64 (x.2.1 + (1 : Int))) + (1 : Int))) + (1 : Int))) + (1 : Int))), x.2.2.1, (IntKind.wrap .i64 (x.2.2.2 + (1 : Int)))))
                      else none
                  else none)
            else none)
      else none
    else
      k (.inr (.inr (x.1, x.2.1, x.2.2.1, x.2.2.2)))

theorem laws_heldVersionS_bp0 (x : ((List dVersion) × Int × Int × Int)) : Par (laws_heldVersionS_b0 x) := by
  unfold laws_heldVersionS_b0
  exact (par_bif (par_ite (c := 0 ≤ x.2.2.2 ∧ x.2.2.2 < (x.1.length : Int)) ((laws_markText_p x.2.1).bind fun y3 => (par_bif (par_ret _) (par_ite (c := 0 ≤ x.2.2.2 ∧ x.2.2.2 < (x.1.length : Int)) ((laws_markText_p (IntKind.wrap .i64 (x.2.1 + (1 : Int)))).bind fun y4 => (par_bif (par_ret _) (par_ite (c := 0 ≤ x.2.2.2 ∧ x.2.2.2 < (x.1.length : Int)) (par_bif (par_ret _) (par_ite (c := 0 ≤ x.2.2.2 ∧ x.2.2.2 < (x.1.length : Int)) (par_bif (par_ret _) (par_ret _)) par_none)) par_none))) par_none))) par_none) (par_ret _))

def laws_heldVersionS_d (a0 : (List dVersion)) (a1 : Int) (k : Int → Option Res) : Option Res :=
  loopK laws_heldVersionS_b0 Fuel (a0, a1, (0 : Int), (0 : Int)) (Sum.elim (fun z1 =>
    k z1.2.2.1) (fun z2 =>
    k z2.2.1))

theorem laws_heldVersionS_h : ∃ g : (List dVersion) → Int → (Int → Option Res) → Option Res, g = laws_heldVersionS_d := ⟨_, rfl⟩
def laws_heldVersionS_k : (List dVersion) → Int → (Int → Option Res) → Option Res := Classical.choose laws_heldVersionS_h
theorem laws_heldVersionS_e : laws_heldVersionS_k = laws_heldVersionS_d := Classical.choose_spec laws_heldVersionS_h

theorem laws_heldVersionS_p (a0 : (List dVersion)) (a1 : Int) : Par (laws_heldVersionS_k a0 a1) := by
  rw [laws_heldVersionS_e]
  unfold laws_heldVersionS_d
  exact ((par_loop laws_heldVersionS_bp0 Fuel (a0, a1, (0 : Int), (0 : Int))).bind2 (fun z1 => (par_ret _)) (fun z2 => (par_ret _)))

def laws_heldRangeS_b0 (x : ((List dRange) × Int × Int × Int)) (k : ((List dRange) × Int × Int × Int) ⊕ (((List dRange) × Int × Int × Int) ⊕ ((List dRange) × Int × Int × Int)) → Option Res) : Option Res :=
    bif (decide (x.2.2.2 < (x.1.length : Int))) then
      if 0 ≤ x.2.2.2 ∧ x.2.2.2 < (x.1.length : Int) then
        laws_markText_k x.2.1 (fun y3 =>
          bif (!(strEq ((rd (Ty.zero tRange) x.1 x.2.2.2).1) y3)) then
            k (.inr (.inl (x.1, x.2.1, (-1 : Int), x.2.2.2)))
          else
            if 0 ≤ x.2.2.2 ∧ x.2.2.2 < (x.1.length : Int) then
              laws_markText_k (IntKind.wrap .i64 (x.2.1 + (1 : Int))) (fun y4 =>
                bif (!(strEq ((rd (Ty.zero tRange) x.1 x.2.2.2).2) y4)) then
                  k (.inr (.inl (x.1, (IntKind.wrap .i64 (x.2.1 + (1 : Int))), (-1 : Int), x.2.2.2)))
                else
                  k (.inl (x.1, (IntKind.wrap .i64 ((IntKind.wrap .i64 (x.2.1 + (1 : Int))) + (1 : Int))), x.2.2.1, (IntKind.wrap .i64 (x.2.2.2 + (1 : Int))))))
            else none)
      else none
    else
      k (.inr (.inr (x.1, x.2.1, x.2.2.1, x.2.2.2)))

theorem laws_heldRangeS_bp0 (x : ((List dRange) × Int × Int × Int)) : Par (laws_heldRangeS_b0 x) := by
  unfold laws_heldRangeS_b0
  exact (par_bif (par_ite (c := 0 ≤ x.2.2.2 ∧ x.2.2.2 < (x.1.length : Int)) ((laws_markText_p x.2.1).bind fun y3 => (par_bif (par_ret _) (par_ite (c := 0 ≤ x.2.2.2 ∧ x.2.2.2 < (x.1.length : Int)) ((laws_markText_p (IntKind.wrap .i64 (x.2.1 + (1 : Int)))).bind fun y4 => (par_bif (par_ret _) (par_ret _))) par_none))) par_none) (par_ret _))

def laws_heldRangeS_d (a0 : (List dRange)) (a1 : Int) (k : Int → Option Res) : Option Res :=
  loopK laws_heldRangeS_b0 Fuel (a0, a1, (0 : Int), (0 : Int)) (Sum.elim (fun z1 =>
    k z1.2.2.1) (fun z2 =>
    k z2.2.1))

theorem laws_heldRangeS_h : ∃ g : (List dRange) → Int → (Int → Option Res) → Option Res, g = laws_heldRangeS_d := ⟨_, rfl⟩
def laws_heldRangeS_k : (List dRange) → Int → (Int → Option Res) → Option Res := Classical.choose laws_heldRangeS_h
theorem laws_heldRangeS_e : laws_heldRangeS_k = laws_heldRangeS_d := Classical.choose_spec laws_heldRangeS_h

theorem laws_heldRangeS_p (a0 : (List dRange)) (a1 : Int) : Par (laws_heldRangeS_k a0 a1) := by
  rw [laws_heldRangeS_e]
  unfold laws_heldRangeS_d
  exact ((par_loop laws_heldRangeS_bp0 Fuel (a0, a1, (0 : Int), (0 : Int))).bind2 (fun z1 => (par_ret _)) (fun z2 => (par_ret _)))

def laws_heldWriteS_b0 (x : ((List dWrite) × Int × Int × Int)) (k : ((List dWrite) × Int × Int × Int) ⊕ (((List dWrite) × Int × Int × Int) ⊕ ((List dWrite) × Int × Int × Int)) → Option Res) : Option Res :=
    bif (decide (x.2.2.2 < (x.1.length : Int))) then
      if 0 ≤ x.2.2.2 ∧ x.2.2.2 < (x.1.length : Int) then
        laws_markText_k x.2.1 (fun y3 =>
          bif (!(strEq ((rd (Ty.zero tWrite) x.1 x.2.2.2).1) y3)) then
            k (.inr (.inl (x.1, x.2.1, (-1 : Int), x.2.2.2)))
          else
            if 0 ≤ x.2.2.2 ∧ x.2.2.2 < (x.1.length : Int) then
              laws_markText_k (IntKind.wrap .i64 (x.2.1 + (1 : Int))) (fun y4 =>
                bif (!(strEq ((rd (Ty.zero tWrite) x.1 x.2.2.2).2.1) y4)) then
                  k (.inr (.inl (x.1, (IntKind.wrap .i64 (x.2.1 + (1 : Int))), (-1 : Int), x.2.2.2)))
                else
                  if 0 ≤ x.2.2.2 ∧ x.2.2.2 < (x.1.length : Int) then
                    bif (!((rd (Ty.zero tWrite) x.1 x.2.2.2).2.2 == (((IntKind.wrap .i64 ((IntKind.wrap .i64 (x.2.1 + (1 : Int))) + (1 : Int))).tmod (3 : Int)) == (0 : Int)))) then
                      k (.inr (.inl (x.1, (IntKind.wrap .i64 ((IntKind.wrap .i64 (x.2.1 + (1 : Int))) + (1 : Int))), (-1 : Int), x.2.2.2)))
                    else
                      k (.inl (x.1, (IntKind.wrap .i64 ((IntKind.wrap .i64 ((IntKind.wrap .i64 (x.2.1 + (1 : Int))) + (1 : Int))) + (1 : Int))), x.2.2.1, (IntKind.wrap .i64 (x.2.2.2 + (1 : Int)))))
                  else none)
            else none)
      else none
    else
      k (.inr (.inr (x.1, x.2.1, x.2.2.1, x.2.2.2)))

theorem laws_heldWriteS_bp0 (x : ((List dWrite) × Int × Int × Int)) : Par (laws_heldWriteS_b0 x) := by
  unfold laws_heldWriteS_b0
  exact (par_bif (par_ite (c := 0 ≤ x.2.2.2 ∧ x.2.2.2 < (x.1.length : Int)) ((laws_markText_p x.2.1).bind fun y3 => (par_bif (par_ret _) (par_ite (c := 0 ≤ x.2.2.2 ∧ x.2.2.2 < (x.1.length : Int)) ((laws_markText_p (IntKind.wrap .i64 (x.2.1 + (1 : Int)))).bind fun y4 => (par_bif (par_ret _) (par_ite (c := 0 ≤ x.2.2.2 ∧ x.2.2.2 < (x.1.length : Int)) (par_bif (par_ret _) (par_ret _)) par_none))) par_none))) par_none) (par_ret _))

def laws_heldWriteS_d (a0 : (List dWrite)) (a1 : Int) (k : Int → Option Res) : Option Res :=
  loopK laws_heldWriteS_b0 Fuel (a0, a1, (0 : Int), (0 : Int)) (Sum.elim (fun z1 =>
    k z1.2.2.1) (fun z2 =>
    k z2.2.1))

theorem laws_heldWriteS_h : ∃ g : (List dWrite) → Int → (Int → Option Res) → Option Res, g = laws_heldWriteS_d := ⟨_, rfl⟩
def laws_heldWriteS_k : (List dWrite) → Int → (Int → Option Res) → Option Res := Classical.choose laws_heldWriteS_h
theorem laws_heldWriteS_e : laws_heldWriteS_k = laws_heldWriteS_d := Classical.choose_spec laws_heldWriteS_h

theorem laws_heldWriteS_p (a0 : (List dWrite)) (a1 : Int) : Par (laws_heldWriteS_k a0 a1) := by
  rw [laws_heldWriteS_e]
  unfold laws_heldWriteS_d
  exact ((par_loop laws_heldWriteS_bp0 Fuel (a0, a1, (0 : Int), (0 : Int))).bind2 (fun z1 => (par_ret _)) (fun z2 => (par_ret _)))

def laws_heldTxnS_b0 (x : ((List dTxn) × Int × Int × Int)) (k : ((List dTxn) × Int × Int × Int) ⊕ (((List dTxn) × Int × Int × Int) ⊕ ((List dTxn) × Int × Int × Int)) → Option Res) : Option Res :=
    bif (decide (x.2.2.2 < (x.1.length : Int))) then
      if 0 ≤ x.2.2.2 ∧ x.2.2.2 < (x.1.length : Int) then
        bif ((rd (Ty.zero tTxn) x.1 x.2.2.2).1 != x.2.1) then
          k (.inr (.inl (x.1, x.2.1, (-1 : Int), x.2.2.2)))
        else
          if 0 ≤ x.2.2.2 ∧ x.2.2.2 < (x.1.length : Int) then
            bif ((rd (Ty.zero tTxn) x.1 x.2.2.2).2.1 != (IntKind.wrap .i64 (x.2.1 + (1 : Int)))) then
              k (.inr (.inl (x.1, (IntKind.wrap .i64 (x.2.1 + (1 : Int))), (-1 : Int), x.2.2.2)))
            else
              if 0 ≤ x.2.2.2 ∧ x.2.2.2 < (x.1.length : Int) then
                bif ((rd (Ty.zero tTxn) x.1 x.2.2.2).2.2.1 != (IntKind.wrap .i64 ((IntKind.wrap .i64 (x.2.1 + (1 : Int))) + (1 : Int)))) then
                  k (.inr (.inl (x.1, (IntKind.wrap .i64 ((IntKind.wrap .i64 (x.2.1 + (1 : Int))) + (1 : Int))), (-1 : Int), x.2.2.2)))
                else
                  if 0 ≤ x.2.2.2 ∧ x.2.2.2 < (x.1.length : Int) then
                    bif ((rd (Ty.zero tTxn) x.1 x.2.2.2).2.2.2.1 != (IntKind.wrap .i64 ((IntKind.wrap .i64 ((IntKind.wrap .i64 (x.2.1 + (1 : Int))) + (1 : Int))) + (1 : Int)))) then
                      k (.inr (.inl (x.1, (IntKind.wrap .i64 ((IntKind.wrap .i64 ((IntKind.wrap .i64 (x.2.1 + (1 : Int))) + (1 : Int))) + (1 : Int))), (-1 : Int), x.2.2.2)))
                    else
                      if 0 ≤ x.2.2.2 ∧ x.2.2.2 < (x.1.length : Int) then
                        laws_heldRangeS_k ((rd (Ty.zero tTxn) x.1 x.2.2.2).2.2.2.2.1) (IntKind.wrap .i64 ((IntKind.wrap .i64 ((IntKind.wrap .i64 ((IntKind.wrap .i64 (x.2.1 + (1 : Int))) + (1 : Int))) + (1 : Int))) + (1 : Int))) (fun y3 =>
                          bif (decide (y3 < (0 : Int))) then
                            k (.inr (.inl (x.1, y3, (-1 : Int), x.2.2.2)))
                          else
                            if 0 ≤ x.2.2.2 ∧ x.2.2.2 < (x.1.length : Int) then
                              laws_heldWriteS_k ((rd (Ty.zero tTxn) x.1 x.2.2.2).2.2.2.2.2.1) y3 (fun y4 =>
                                bif (decide (y4 < (0 : Int))) then
                                  k (.inr (.inl (x.1, y4, (-1 : Int), x.2.2.2)))
                                else
                                  if 0 ≤ x.2.2.2 ∧ x.2.2.2 < (x.1.length : Int) then
                                    bif (!((rd (Ty.zero tTxn) x.1 x.2.2.2).2.2.2.2.2.2.1 == ((y4.tmod (3 : Int)) == (0 : Int)))) then
                                      k (.inr (.inl (x.1, y4, (-1 : Int), x.2.2.2)))
                                    else
                                      if 0 ≤ x.2.2.2 ∧ x.2.2.2 < (x.1.length : Int) then
                                        laws_markText_k (IntKind.wrap .i64 (y4 + (1 : Int))) (fun y5 =>
                                          bif (!(strEq ((rd (Ty.zero tTxn) x.1 x.2.2.2).2.2.2.2.2.2.2) y5)) then
                                            k (.inr (.inl (x.1, (IntKind.wrap .i64 (y4 + (1 : Int))), (-1 : Int), x.2.2.2)))
                                          else
                                            k (.inl (x.1, (IntKind.wrap .i64 ((IntKind.wrap .i64 (y4 + (1 : Int))) + (1 : Int))), x.2.2.1, (IntKind.wrap .i64 (x.2.2.2 + (1 : Int))))))
                                      else none
                                  else none)
                            else none)
                      else none
                  else none
              else none
          else none
      else none
    else
      k (.inr (.inr (x.1, x.2.1, x.2.2.1, x.2.2.2)))

theorem laws_heldTxnS_bp0 (x : ((List dTxn) × Int × Int × Int)) : Par (laws_heldTxnS_b0 x) := by
  unfold laws_heldTxnS_b0
  exact (par_bif (par_ite (c := 0 ≤ x.2.2.2 ∧ x.2.2.2 < (x.1.length : Int)) (par_bif (par_ret _) (par_ite (c := 0 ≤ x.2.2.2 ∧ x.2.2.2 < (x.1.length : Int)) (par_bif (par_ret _) (par_ite (c := 0 ≤ x.2.2.2 ∧ x.2.2.2 < (x.1.length : Int)) (par_bif (par_ret _) (par_ite (c := 0 ≤ x.2.2.2 ∧ x.2.2.2 < (x.1.length : Int)) (par_bif (par_ret _) (par_ite (c := 0 ≤ x.2.2.2 ∧ x.2.2.2 < (x.1.length : Int)) ((laws_heldRangeS_p ((rd (Ty.zero tTxn) x.1 x.2.2.2).2.2.2.2.1) (IntKind.wrap .i64 ((IntKind.wrap .i64 ((IntKind.wrap .i64 ((IntKind.wrap .i64 (x.2.1 + (1 : Int))) + (1 : Int))) + (1 : Int))) + (1 : Int)))).bind fun y3 => (par_bif (par_ret _) (par_ite (c := 0 ≤ x.2.2.2 ∧ x.2.2.2 < (x.1.length : Int)) ((laws_heldWriteS_p ((rd (Ty.zero tTxn) x.1 x.2.2.2).2.2.2.2.2.1) y3).bind fun y4 => (par_bif (par_ret _) (par_ite (c := 0 ≤ x.2.2.2 ∧ x.2.2.2 < (x.1.length : Int)) (par_bif (par_ret _) (par_ite (c := 0 ≤ x.2.2.2 ∧ x.2.2.2 < (x.1.length : Int)) ((laws_markText_p (IntKind.wrap .i64 (y4 + (1 : Int)))).bind fun y5 => (par_bif (par_ret _) (par_ret _))) par_none)) par_none))) par_none))) par_none)) par_none)) par_none)) par_none)) par_none) (par_ret _))

def laws_heldTxnS_d (a0 : (List dTxn)) (a1 : Int) (k : Int → Option Res) : Option Res :=
  loopK laws_heldTxnS_b0 Fuel (a0, a1, (0 : Int), (0 : Int)) (Sum.elim (fun z1 =>
    k z1.2.2.1) (fun z2 =>
    k z2.2.1))

theorem laws_heldTxnS_h : ∃ g : (List dTxn) → Int → (Int → Option Res) → Option Res, g = laws_heldTxnS_d := ⟨_, rfl⟩
def laws_heldTxnS_k : (List dTxn) → Int → (Int → Option Res) → Option Res := Classical.choose laws_heldTxnS_h
theorem laws_heldTxnS_e : laws_heldTxnS_k = laws_heldTxnS_d := Classical.choose_spec laws_heldTxnS_h

theorem laws_heldTxnS_p (a0 : (List dTxn)) (a1 : Int) : Par (laws_heldTxnS_k a0 a1) := by
  rw [laws_heldTxnS_e]
  unfold laws_heldTxnS_d
  exact ((par_loop laws_heldTxnS_bp0 Fuel (a0, a1, (0 : Int), (0 : Int))).bind2 (fun z1 => (par_ret _)) (fun z2 => (par_ret _)))

def laws_heldBase_d (a0 : dBase) (a1 : Int) (k : Int → Option Res) : Option Res :=
  laws_heldVersionS_k a0.1 a1 (fun y1 =>
    bif (decide (y1 < (0 : Int))) then
      k (-1 : Int)
    else
      laws_heldTxnS_k a0.2.1 y1 (fun y2 =>
        bif (decide (y2 < (0 : Int))) then
          k (-1 : Int)
        else
          laws_heldTxnS_k a0.2.2.1 y2 (fun y3 =>
            bif (decide (y3 < (0 : Int))) then
              k (-1 : Int)
            else
              k y3)))

theorem laws_heldBase_h : ∃ g : dBase → Int → (Int → Option Res) → Option Res, g = laws_heldBase_d := ⟨_, rfl⟩
def laws_heldBase_k : dBase → Int → (Int → Option Res) → Option Res := Classical.choose laws_heldBase_h
theorem laws_heldBase_e : laws_heldBase_k = laws_heldBase_d := Classical.choose_spec laws_heldBase_h

theorem laws_heldBase_p (a0 : dBase) (a1 : Int) : Par (laws_heldBase_k a0 a1) := by
  rw [laws_heldBase_e]
  unfold laws_heldBase_d
  exact ((laws_heldVersionS_p a0.1 a1).bind fun y1 => (par_bif (par_ret _) ((laws_heldTxnS_p a0.2.1 y1).bind fun y2 => (par_bif (par_ret _) ((laws_heldTxnS_p a0.2.2.1 y2).bind fun y3 => (par_bif (par_ret _) (par_ret _)))))))

def laws_heldEngine_d (a0 : dEngine) (a1 : Int) (k : Int → Option Res) : Option Res :=
  laws_heldBase_k a0.1 a1 (fun y1 =>
    bif (decide (y1 < (0 : Int))) then
      k (-1 : Int)
    else
      laws_heldTxnS_k a0.2 y1 (fun y2 =>
        bif (decide (y2 < (0 : Int))) then
          k (-1 : Int)
        else
          k y2))

theorem laws_heldEngine_h : ∃ g : dEngine → Int → (Int → Option Res) → Option Res, g = laws_heldEngine_d := ⟨_, rfl⟩
def laws_heldEngine_k : dEngine → Int → (Int → Option Res) → Option Res := Classical.choose laws_heldEngine_h
theorem laws_heldEngine_e : laws_heldEngine_k = laws_heldEngine_d := Classical.choose_spec laws_heldEngine_h

theorem laws_heldEngine_p (a0 : dEngine) (a1 : Int) : Par (laws_heldEngine_k a0 a1) := by
  rw [laws_heldEngine_e]
  unfold laws_heldEngine_d
  exact ((laws_heldBase_p a0.1 a1).bind fun y1 => (par_bif (par_ret _) ((laws_heldTxnS_p a0.2 y1).bind fun y2 => (par_bif (par_ret _) (par_ret _)))))

def laws_heldStringS_b0 (x : ((List ByteArray) × Int × Int × Int)) (k : ((List ByteArray) × Int × Int × Int) ⊕ (((List ByteArray) × Int × Int × Int) ⊕ ((List ByteArray) × Int × Int × Int)) → Option Res) : Option Res :=
    bif (decide (x.2.2.2 < (x.1.length : Int))) then
      if 0 ≤ x.2.2.2 ∧ x.2.2.2 < (x.1.length : Int) then
        laws_markText_k x.2.1 (fun y3 =>
          bif (!(strEq (rd (Ty.zero .str) x.1 x.2.2.2) y3)) then
            k (.inr (.inl (x.1, x.2.1, (-1 : Int), x.2.2.2)))
          else
            k (.inl (x.1, (IntKind.wrap .i64 (x.2.1 + (1 : Int))), x.2.2.1, (IntKind.wrap .i64 (x.2.2.2 + (1 : Int))))))
      else none
    else
      k (.inr (.inr (x.1, x.2.1, x.2.2.1, x.2.2.2)))

theorem laws_heldStringS_bp0 (x : ((List ByteArray) × Int × Int × Int)) : Par (laws_heldStringS_b0 x) := by
  unfold laws_heldStringS_b0
  exact (par_bif (par_ite (c := 0 ≤ x.2.2.2 ∧ x.2.2.2 < (x.1.length : Int)) ((laws_markText_p x.2.1).bind fun y3 => (par_bif (par_ret _) (par_ret _))) par_none) (par_ret _))

def laws_heldStringS_d (a0 : (List ByteArray)) (a1 : Int) (k : Int → Option Res) : Option Res :=
  loopK laws_heldStringS_b0 Fuel (a0, a1, (0 : Int), (0 : Int)) (Sum.elim (fun z1 =>
    k z1.2.2.1) (fun z2 =>
    k z2.2.1))

theorem laws_heldStringS_h : ∃ g : (List ByteArray) → Int → (Int → Option Res) → Option Res, g = laws_heldStringS_d := ⟨_, rfl⟩
def laws_heldStringS_k : (List ByteArray) → Int → (Int → Option Res) → Option Res := Classical.choose laws_heldStringS_h
theorem laws_heldStringS_e : laws_heldStringS_k = laws_heldStringS_d := Classical.choose_spec laws_heldStringS_h

theorem laws_heldStringS_p (a0 : (List ByteArray)) (a1 : Int) : Par (laws_heldStringS_k a0 a1) := by
  rw [laws_heldStringS_e]
  unfold laws_heldStringS_d
  exact ((par_loop laws_heldStringS_bp0 Fuel (a0, a1, (0 : Int), (0 : Int))).bind2 (fun z1 => (par_ret _)) (fun z2 => (par_ret _)))

def laws_heldPutS_b0 (x : ((List dPut) × Int × Int × Int)) (k : ((List dPut) × Int × Int × Int) ⊕ (((List dPut) × Int × Int × Int) ⊕ ((List dPut) × Int × Int × Int)) → Option Res) : Option Res :=
    bif (decide (x.2.2.2 < (x.1.length : Int))) then
      if 0 ≤ x.2.2.2 ∧ x.2.2.2 < (x.1.length : Int) then
        bif ((rd (Ty.zero tPut) x.1 x.2.2.2).1 != x.2.1) then
          k (.inr (.inl (x.1, x.2.1, (-1 : Int), x.2.2.2)))
        else
          if 0 ≤ x.2.2.2 ∧ x.2.2.2 < (x.1.length : Int) then
            laws_markText_k (IntKind.wrap .i64 (x.2.1 + (1 : Int))) (fun y3 =>
              bif (!(strEq ((rd (Ty.zero tPut) x.1 x.2.2.2).2) y3)) then
                k (.inr (.inl (x.1, (IntKind.wrap .i64 (x.2.1 + (1 : Int))), (-1 : Int), x.2.2.2)))
              else
                k (.inl (x.1, (IntKind.wrap .i64 ((IntKind.wrap .i64 (x.2.1 + (1 : Int))) + (1 : Int))), x.2.2.1, (IntKind.wrap .i64 (x.2.2.2 + (1 : Int))))))
          else none
      else none
    else
      k (.inr (.inr (x.1, x.2.1, x.2.2.1, x.2.2.2)))

theorem laws_heldPutS_bp0 (x : ((List dPut) × Int × Int × Int)) : Par (laws_heldPutS_b0 x) := by
  unfold laws_heldPutS_b0
  exact (par_bif (par_ite (c := 0 ≤ x.2.2.2 ∧ x.2.2.2 < (x.1.length : Int)) (par_bif (par_ret _) (par_ite (c := 0 ≤ x.2.2.2 ∧ x.2.2.2 < (x.1.length : Int)) ((laws_markText_p (IntKind.wrap .i64 (x.2.1 + (1 : Int)))).bind fun y3 => (par_bif (par_ret _) (par_ret _))) par_none)) par_none) (par_ret _))

def laws_heldPutS_d (a0 : (List dPut)) (a1 : Int) (k : Int → Option Res) : Option Res :=
  loopK laws_heldPutS_b0 Fuel (a0, a1, (0 : Int), (0 : Int)) (Sum.elim (fun z1 =>
    k z1.2.2.1) (fun z2 =>
    k z2.2.1))

theorem laws_heldPutS_h : ∃ g : (List dPut) → Int → (Int → Option Res) → Option Res, g = laws_heldPutS_d := ⟨_, rfl⟩
def laws_heldPutS_k : (List dPut) → Int → (Int → Option Res) → Option Res := Classical.choose laws_heldPutS_h
theorem laws_heldPutS_e : laws_heldPutS_k = laws_heldPutS_d := Classical.choose_spec laws_heldPutS_h

theorem laws_heldPutS_p (a0 : (List dPut)) (a1 : Int) : Par (laws_heldPutS_k a0 a1) := by
  rw [laws_heldPutS_e]
  unfold laws_heldPutS_d
  exact ((par_loop laws_heldPutS_bp0 Fuel (a0, a1, (0 : Int), (0 : Int))).bind2 (fun z1 => (par_ret _)) (fun z2 => (par_ret _)))

def laws_heldDisk_d (a0 : dDisk) (a1 : Int) (k : Int → Option Res) : Option Res :=
  laws_heldStringS_k a0.1 a1 (fun y1 =>
    bif (decide (y1 < (0 : Int))) then
      k (-1 : Int)
    else
      laws_heldPutS_k a0.2 y1 (fun y2 =>
        bif (decide (y2 < (0 : Int))) then
          k (-1 : Int)
        else
          k y2))

theorem laws_heldDisk_h : ∃ g : dDisk → Int → (Int → Option Res) → Option Res, g = laws_heldDisk_d := ⟨_, rfl⟩
def laws_heldDisk_k : dDisk → Int → (Int → Option Res) → Option Res := Classical.choose laws_heldDisk_h
theorem laws_heldDisk_e : laws_heldDisk_k = laws_heldDisk_d := Classical.choose_spec laws_heldDisk_h

theorem laws_heldDisk_p (a0 : dDisk) (a1 : Int) : Par (laws_heldDisk_k a0 a1) := by
  rw [laws_heldDisk_e]
  unfold laws_heldDisk_d
  exact ((laws_heldStringS_p a0.1 a1).bind fun y1 => (par_bif (par_ret _) ((laws_heldPutS_p a0.2 y1).bind fun y2 => (par_bif (par_ret _) (par_ret _)))))

def laws_heldStore_d (a0 : dStore) (a1 : Int) (k : Int → Option Res) : Option Res :=
  laws_heldEngine_k a0.1 a1 (fun y1 =>
    bif (decide (y1 < (0 : Int))) then
      k (-1 : Int)
    else
      laws_heldDisk_k a0.2 y1 (fun y2 =>
        bif (decide (y2 < (0 : Int))) then
          k (-1 : Int)
        else
          k y2))

theorem laws_heldStore_h : ∃ g : dStore → Int → (Int → Option Res) → Option Res, g = laws_heldStore_d := ⟨_, rfl⟩
def laws_heldStore_k : dStore → Int → (Int → Option Res) → Option Res := Classical.choose laws_heldStore_h
theorem laws_heldStore_e : laws_heldStore_k = laws_heldStore_d := Classical.choose_spec laws_heldStore_h

theorem laws_heldStore_p (a0 : dStore) (a1 : Int) : Par (laws_heldStore_k a0 a1) := by
  rw [laws_heldStore_e]
  unfold laws_heldStore_d
  exact ((laws_heldEngine_p a0.1 a1).bind fun y1 => (par_bif (par_ret _) ((laws_heldDisk_p a0.2 y1).bind fun y2 => (par_bif (par_ret _) (par_ret _)))))

def laws_FnExactStoreNew_d  (k : Bool → Option Res) : Option Res :=
  spec_StoreNew_k  (fun y1 =>
    impl_StoreNew_k  (fun y2 =>
      laws_eqStore_k (((([] : List dVersion), (([] : List dTxn), (([] : List dTxn), (y2.1, y2.2.1)))), ([] : List dTxn)), (y2.2.2, ([] : List dPut))) (((([] : List dVersion), (([] : List dTxn), (([] : List dTxn), (y1.1, y1.2.1)))), ([] : List dTxn)), (y1.2.2, ([] : List dPut))) (fun y3 =>
        bif (!y3) then
          k false
        else
          laws_markStore_va_k y2.1 y2.2.1 (1 : Int) y2.2.2 (fun y4 =>
            laws_heldStore_k (((([] : List dVersion), (([] : List dTxn), (([] : List dTxn), (y2.1, y2.2.1)))), ([] : List dTxn)), (y4.2, ([] : List dPut))) (1 : Int) (fun y5 =>
              bif (decide (y5 < (0 : Int))) then
                k false
              else
                bif (y5 != y4.1) then
                  k false
                else
                  impl_StoreNew_k  (fun y6 =>
                    laws_eqStore_k (((([] : List dVersion), (([] : List dTxn), (([] : List dTxn), (y6.1, y6.2.1)))), ([] : List dTxn)), (y6.2.2, ([] : List dPut))) (((([] : List dVersion), (([] : List dTxn), (([] : List dTxn), (y1.1, y1.2.1)))), ([] : List dTxn)), (y1.2.2, ([] : List dPut))) (fun y7 =>
                      bif (!y7) then
                        k false
                      else
                        laws_heldStore_k (((([] : List dVersion), (([] : List dTxn), (([] : List dTxn), (y2.1, y2.2.1)))), ([] : List dTxn)), (y4.2, ([] : List dPut))) (1 : Int) (fun y8 =>
                          bif (decide (y8 < (0 : Int))) then
                            k false
                          else
                            bif (y8 != y4.1) then
                              k false
                            else
                              k true))))))))

theorem laws_FnExactStoreNew_h : ∃ g : (Bool → Option Res) → Option Res, g = laws_FnExactStoreNew_d := ⟨_, rfl⟩
def laws_FnExactStoreNew_k : (Bool → Option Res) → Option Res := Classical.choose laws_FnExactStoreNew_h
theorem laws_FnExactStoreNew_e : laws_FnExactStoreNew_k = laws_FnExactStoreNew_d := Classical.choose_spec laws_FnExactStoreNew_h

theorem laws_FnExactStoreNew_p  : Par (laws_FnExactStoreNew_k ) := by
  rw [laws_FnExactStoreNew_e]
  unfold laws_FnExactStoreNew_d
  exact ((spec_StoreNew_p ).bind fun y1 => ((impl_StoreNew_p ).bind fun y2 => ((laws_eqStore_p (((([] : List dVersion), (([] : List dTxn), (([] : List dTxn), (y2.1, y2.2.1)))), ([] : List dTxn)), (y2.2.2, ([] : List dPut))) (((([] : List dVersion), (([] : List dTxn), (([] : List dTxn), (y1.1, y1.2.1)))), ([] : List dTxn)), (y1.2.2, ([] : List dPut)))).bind fun y3 => (par_bif (par_ret _) ((laws_markStore_va_p y2.1 y2.2.1 (1 : Int) y2.2.2).bind fun y4 => ((laws_heldStore_p (((([] : List dVersion), (([] : List dTxn), (([] : List dTxn), (y2.1, y2.2.1)))), ([] : List dTxn)), (y4.2, ([] : List dPut))) (1 : Int)).bind fun y5 => (par_bif (par_ret _) (par_bif (par_ret _) ((impl_StoreNew_p ).bind fun y6 => ((laws_eqStore_p (((([] : List dVersion), (([] : List dTxn), (([] : List dTxn), (y6.1, y6.2.1)))), ([] : List dTxn)), (y6.2.2, ([] : List dPut))) (((([] : List dVersion), (([] : List dTxn), (([] : List dTxn), (y1.1, y1.2.1)))), ([] : List dTxn)), (y1.2.2, ([] : List dPut)))).bind fun y7 => (par_bif (par_ret _) ((laws_heldStore_p (((([] : List dVersion), (([] : List dTxn), (([] : List dTxn), (y2.1, y2.2.1)))), ([] : List dTxn)), (y4.2, ([] : List dPut))) (1 : Int)).bind fun y8 => (par_bif (par_ret _) (par_bif (par_ret _) (par_ret _)))))))))))))))

def spec_BaseNew_g (args : List AV) (st : St) (k : K1) : Option Res :=
  onPats [] [] args st (fun p q => spec_BaseNew_k  (fun (y : (Int × Int)) => k (.agg [.nilS, .nilS, .nilS, .int .i64 y.1, .int .i64 y.2]) []))
    (none)

theorem spec_BaseNew_q  : Par (fun k : AV × St → Option Res => spec_BaseNew_g [] [] (fun v s => k (v, s))) :=
  (spec_BaseNew_p ).bind (H := fun (y : (Int × Int)) (k : AV × St → Option Res) => (fun (y : (Int × Int)) => k ((.agg [.nilS, .nilS, .nilS, .int .i64 y.1, .int .i64 y.2] : AV), ([] : St))) y) (fun y => par_ret _)

def spec_EngineNew_g (args : List AV) (st : St) (k : K1) : Option Res :=
  onPats [] [] args st (fun p q => spec_EngineNew_k  (fun (y : (Int × Int)) => k (.agg [.nilS, .nilS, .nilS, .int .i64 y.1, .int .i64 y.2, .nilS]) []))
    (none)

theorem spec_EngineNew_q  : Par (fun k : AV × St → Option Res => spec_EngineNew_g [] [] (fun v s => k (v, s))) :=
  (spec_EngineNew_p ).bind (H := fun (y : (Int × Int)) (k : AV × St → Option Res) => (fun (y : (Int × Int)) => k ((.agg [.nilS, .nilS, .nilS, .int .i64 y.1, .int .i64 y.2, .nilS] : AV), ([] : St))) y) (fun y => par_ret _)

def spec_l04Sectors_g (args : List AV) (st : St) (k : K1) : Option Res :=
  onPats [] [] args st (fun p q => spec_l04Sectors_k  (fun (y : Int) => k (.int .i64 y) []))
    (none)

theorem spec_l04Sectors_q  : Par (fun k : AV × St → Option Res => spec_l04Sectors_g [] [] (fun v s => k (v, s))) :=
  (spec_l04Sectors_p ).bind (H := fun (y : Int) (k : AV × St → Option Res) => (fun (y : Int) => k ((.int .i64 y : AV), ([] : St))) y) (fun y => par_ret _)

def spec_l01In_g (args : List AV) (st : St) (k : K1) : Option Res :=
  onPats [.int .i64, .int .i64, .int .i64] [] args st (fun p q => spec_l01In_k p.1 p.2.1 p.2.2.1 (fun (y : Bool) => k (.bool y) []))
    (none)

theorem spec_l01In_q (a0 : Int) (a1 : Int) (a2 : Int) : Par (fun k : AV × St → Option Res => spec_l01In_g [.int .i64 a0, .int .i64 a1, .int .i64 a2] [] (fun v s => k (v, s))) :=
  (spec_l01In_p a0 a1 a2).bind (H := fun (y : Bool) (k : AV × St → Option Res) => (fun (y : Bool) => k ((.bool y : AV), ([] : St))) y) (fun y => par_ret _)

def spec_l01Long_g (args : List AV) (st : St) (k : K1) : Option Res :=
  onPats [.int .i64, .int .u8] [] args st (fun p q => spec_l01Long_k p.1 p.2.1 (fun (y : ByteArray) => k (.str y) []))
    (none)

theorem spec_l01Long_q (a0 : Int) (a1 : Int) : Par (fun k : AV × St → Option Res => spec_l01Long_g [.int .i64 a0, .int .u8 a1] [] (fun v s => k (v, s))) :=
  (spec_l01Long_p a0 a1).bind (H := fun (y : ByteArray) (k : AV × St → Option Res) => (fun (y : ByteArray) => k ((.str y : AV), ([] : St))) y) (fun y => par_ret _)

def spec_l03Zero_g (args : List AV) (st : St) (k : K1) : Option Res :=
  onPats [] [] args st (fun p q => spec_l03Zero_k  (fun (y : ByteArray) => k (.str y) []))
    (none)

theorem spec_l03Zero_q  : Par (fun k : AV × St → Option Res => spec_l03Zero_g [] [] (fun v s => k (v, s))) :=
  (spec_l03Zero_p ).bind (H := fun (y : ByteArray) (k : AV × St → Option Res) => (fun (y : ByteArray) => k ((.str y : AV), ([] : St))) y) (fun y => par_ret _)

def spec_DiskNew_g (args : List AV) (st : St) (k : K1) : Option Res :=
  onPats [.int .i64] [] args st (fun p q => spec_DiskNew_k p.1 (fun (y : (Bool × (List ByteArray))) => k (.tup [.agg [.own 0, .nilS], .bool y.1]) [.arr .str y.2]))
    (none)

theorem spec_DiskNew_q (a0 : Int) : Par (fun k : AV × St → Option Res => spec_DiskNew_g [.int .i64 a0] [] (fun v s => k (v, s))) :=
  (spec_DiskNew_p a0).bind (H := fun (y : (Bool × (List ByteArray))) (k : AV × St → Option Res) => (fun (y : (Bool × (List ByteArray))) => k ((.tup [.agg [.own 0, .nilS], .bool y.1] : AV), ([.arr .str y.2] : St))) y) (fun y => par_ret _)

def spec_LogNew_g (args : List AV) (st : St) (k : K1) : Option Res :=
  onPats [] [] args st (fun p q => spec_LogNew_k  (fun (y : (List ByteArray)) => k (.agg [.own 0, .nilS]) [.arr .str y]))
    (none)

theorem spec_LogNew_q  : Par (fun k : AV × St → Option Res => spec_LogNew_g [] [] (fun v s => k (v, s))) :=
  (spec_LogNew_p ).bind (H := fun (y : (List ByteArray)) (k : AV × St → Option Res) => (fun (y : (List ByteArray)) => k ((.agg [.own 0, .nilS] : AV), ([.arr .str y] : St))) y) (fun y => par_ret _)

def spec_StoreNew_g (args : List AV) (st : St) (k : K1) : Option Res :=
  onPats [] [] args st (fun p q => spec_StoreNew_k  (fun (y : (Int × Int × (List ByteArray))) => k (.agg [.nilS, .nilS, .nilS, .int .i64 y.1, .int .i64 y.2.1, .nilS, .own 0, .nilS]) [.arr .str y.2.2]))
    (none)

theorem spec_StoreNew_q  : Par (fun k : AV × St → Option Res => spec_StoreNew_g [] [] (fun v s => k (v, s))) :=
  (spec_StoreNew_p ).bind (H := fun (y : (Int × Int × (List ByteArray))) (k : AV × St → Option Res) => (fun (y : (Int × Int × (List ByteArray))) => k ((.agg [.nilS, .nilS, .nilS, .int .i64 y.1, .int .i64 y.2.1, .nilS, .own 0, .nilS] : AV), ([.arr .str y.2.2] : St))) y) (fun y => par_ret _)

def impl_BaseNew_g (args : List AV) (st : St) (k : K1) : Option Res :=
  onPats [] [] args st (fun p q => impl_BaseNew_k  (fun (y : (Int × Int)) => k (.agg [.nilS, .nilS, .nilS, .int .i64 y.1, .int .i64 y.2]) []))
    (none)

theorem impl_BaseNew_q  : Par (fun k : AV × St → Option Res => impl_BaseNew_g [] [] (fun v s => k (v, s))) :=
  (impl_BaseNew_p ).bind (H := fun (y : (Int × Int)) (k : AV × St → Option Res) => (fun (y : (Int × Int)) => k ((.agg [.nilS, .nilS, .nilS, .int .i64 y.1, .int .i64 y.2] : AV), ([] : St))) y) (fun y => par_ret _)

def impl_EngineNew_g (args : List AV) (st : St) (k : K1) : Option Res :=
  onPats [] [] args st (fun p q => impl_EngineNew_k  (fun (y : (Int × Int)) => k (.agg [.nilS, .nilS, .nilS, .int .i64 y.1, .int .i64 y.2, .nilS]) []))
    (none)

theorem impl_EngineNew_q  : Par (fun k : AV × St → Option Res => impl_EngineNew_g [] [] (fun v s => k (v, s))) :=
  (impl_EngineNew_p ).bind (H := fun (y : (Int × Int)) (k : AV × St → Option Res) => (fun (y : (Int × Int)) => k ((.agg [.nilS, .nilS, .nilS, .int .i64 y.1, .int .i64 y.2, .nilS] : AV), ([] : St))) y) (fun y => par_ret _)

def impl_within_g (args : List AV) (st : St) (k : K1) : Option Res :=
  onPats [.int .i64, .int .i64, .int .i64] [] args st (fun p q => impl_within_k p.1 p.2.1 p.2.2.1 (fun (y : Bool) => k (.bool y) []))
    (none)

theorem impl_within_q (a0 : Int) (a1 : Int) (a2 : Int) : Par (fun k : AV × St → Option Res => impl_within_g [.int .i64 a0, .int .i64 a1, .int .i64 a2] [] (fun v s => k (v, s))) :=
  (impl_within_p a0 a1 a2).bind (H := fun (y : Bool) (k : AV × St → Option Res) => (fun (y : Bool) => k ((.bool y : AV), ([] : St))) y) (fun y => par_ret _)

def strings_Repeat_g (args : List AV) (st : St) (k : K1) : Option Res :=
  onPats [.str, .int .i64] [] args st (fun p q => strings_Repeat_k p.1 p.2.1 (fun (y : ByteArray) => k (.str y) []))
    (none)

theorem strings_Repeat_q (a0 : ByteArray) (a1 : Int) : Par (fun k : AV × St → Option Res => strings_Repeat_g [.str a0, .int .i64 a1] [] (fun v s => k (v, s))) :=
  (strings_Repeat_p a0 a1).bind (H := fun (y : ByteArray) (k : AV × St → Option Res) => (fun (y : ByteArray) => k ((.str y : AV), ([] : St))) y) (fun y => par_ret _)

def impl_DiskNew_g (args : List AV) (st : St) (k : K1) : Option Res :=
  onPats [.int .i64] [] args st (fun p q => impl_DiskNew_k p.1 (fun (y : (Bool × (List ByteArray))) => k (.tup [.agg [.own 0, .nilS], .bool y.1]) [.arr .str y.2]))
    (none)

theorem impl_DiskNew_q (a0 : Int) : Par (fun k : AV × St → Option Res => impl_DiskNew_g [.int .i64 a0] [] (fun v s => k (v, s))) :=
  (impl_DiskNew_p a0).bind (H := fun (y : (Bool × (List ByteArray))) (k : AV × St → Option Res) => (fun (y : (Bool × (List ByteArray))) => k ((.tup [.agg [.own 0, .nilS], .bool y.1] : AV), ([.arr .str y.2] : St))) y) (fun y => par_ret _)

def impl_LogNew_g (args : List AV) (st : St) (k : K1) : Option Res :=
  onPats [] [] args st (fun p q => impl_LogNew_k  (fun (y : (List ByteArray)) => k (.agg [.own 0, .nilS]) [.arr .str y]))
    (none)

theorem impl_LogNew_q  : Par (fun k : AV × St → Option Res => impl_LogNew_g [] [] (fun v s => k (v, s))) :=
  (impl_LogNew_p ).bind (H := fun (y : (List ByteArray)) (k : AV × St → Option Res) => (fun (y : (List ByteArray)) => k ((.agg [.own 0, .nilS] : AV), ([.arr .str y] : St))) y) (fun y => par_ret _)

def impl_StoreNew_g (args : List AV) (st : St) (k : K1) : Option Res :=
  onPats [] [] args st (fun p q => impl_StoreNew_k  (fun (y : (Int × Int × (List ByteArray))) => k (.agg [.nilS, .nilS, .nilS, .int .i64 y.1, .int .i64 y.2.1, .nilS, .own 0, .nilS]) [.arr .str y.2.2]))
    (none)

theorem impl_StoreNew_q  : Par (fun k : AV × St → Option Res => impl_StoreNew_g [] [] (fun v s => k (v, s))) :=
  (impl_StoreNew_p ).bind (H := fun (y : (Int × Int × (List ByteArray))) (k : AV × St → Option Res) => (fun (y : (Int × Int × (List ByteArray))) => k ((.agg [.nilS, .nilS, .nilS, .int .i64 y.1, .int .i64 y.2.1, .nilS, .own 0, .nilS] : AV), ([.arr .str y.2.2] : St))) y) (fun y => par_ret _)

def laws_eqVersion_g (args : List AV) (st : St) (k : K1) : Option Res :=
  onPats [.agg [.str, .str, .bool, .int .i64], .agg [.str, .str, .bool, .int .i64]] [] args st (fun p q => laws_eqVersion_k (p.1.1, (p.1.2.1, (p.1.2.2.1, p.1.2.2.2.1))) (p.2.1.1, (p.2.1.2.1, (p.2.1.2.2.1, p.2.1.2.2.2.1))) (fun (y : Bool) => k (.bool y) []))
    (none)

theorem laws_eqVersion_q (a0 : ByteArray) (a1 : ByteArray) (a2 : Bool) (a3 : Int) (a4 : ByteArray) (a5 : ByteArray) (a6 : Bool) (a7 : Int) : Par (fun k : AV × St → Option Res => laws_eqVersion_g [.agg [.str a0, .str a1, .bool a2, .int .i64 a3], .agg [.str a4, .str a5, .bool a6, .int .i64 a7]] [] (fun v s => k (v, s))) :=
  (laws_eqVersion_p (a0, (a1, (a2, a3))) (a4, (a5, (a6, a7)))).bind (H := fun (y : Bool) (k : AV × St → Option Res) => (fun (y : Bool) => k ((.bool y : AV), ([] : St))) y) (fun y => par_ret _)

def laws_eqVersionS_g (args : List AV) (st : St) (k : K1) : Option Res :=
  onPats [.lst tVersion, .lst tVersion] [] args st (fun p q => laws_eqVersionS_k p.1 p.2.1 (fun (y : Bool) => k (.bool y) []))
    (none)

theorem laws_eqVersionS_q (a0 : (List dVersion)) (a1 : (List dVersion)) : Par (fun k : AV × St → Option Res => laws_eqVersionS_g [.lst tVersion a0, .lst tVersion a1] [] (fun v s => k (v, s))) :=
  (laws_eqVersionS_p a0 a1).bind (H := fun (y : Bool) (k : AV × St → Option Res) => (fun (y : Bool) => k ((.bool y : AV), ([] : St))) y) (fun y => par_ret _)

def laws_eqRange_g (args : List AV) (st : St) (k : K1) : Option Res :=
  onPats [.agg [.str, .str], .agg [.str, .str]] [] args st (fun p q => laws_eqRange_k (p.1.1, p.1.2.1) (p.2.1.1, p.2.1.2.1) (fun (y : Bool) => k (.bool y) []))
    (none)

theorem laws_eqRange_q (a0 : ByteArray) (a1 : ByteArray) (a2 : ByteArray) (a3 : ByteArray) : Par (fun k : AV × St → Option Res => laws_eqRange_g [.agg [.str a0, .str a1], .agg [.str a2, .str a3]] [] (fun v s => k (v, s))) :=
  (laws_eqRange_p (a0, a1) (a2, a3)).bind (H := fun (y : Bool) (k : AV × St → Option Res) => (fun (y : Bool) => k ((.bool y : AV), ([] : St))) y) (fun y => par_ret _)

def laws_eqRangeS_g (args : List AV) (st : St) (k : K1) : Option Res :=
  onPats [.lst tRange, .lst tRange] [] args st (fun p q => laws_eqRangeS_k p.1 p.2.1 (fun (y : Bool) => k (.bool y) []))
    (none)

theorem laws_eqRangeS_q (a0 : (List dRange)) (a1 : (List dRange)) : Par (fun k : AV × St → Option Res => laws_eqRangeS_g [.lst tRange a0, .lst tRange a1] [] (fun v s => k (v, s))) :=
  (laws_eqRangeS_p a0 a1).bind (H := fun (y : Bool) (k : AV × St → Option Res) => (fun (y : Bool) => k ((.bool y : AV), ([] : St))) y) (fun y => par_ret _)

def laws_eqWrite_g (args : List AV) (st : St) (k : K1) : Option Res :=
  onPats [.agg [.str, .str, .bool], .agg [.str, .str, .bool]] [] args st (fun p q => laws_eqWrite_k (p.1.1, (p.1.2.1, p.1.2.2.1)) (p.2.1.1, (p.2.1.2.1, p.2.1.2.2.1)) (fun (y : Bool) => k (.bool y) []))
    (none)

theorem laws_eqWrite_q (a0 : ByteArray) (a1 : ByteArray) (a2 : Bool) (a3 : ByteArray) (a4 : ByteArray) (a5 : Bool) : Par (fun k : AV × St → Option Res => laws_eqWrite_g [.agg [.str a0, .str a1, .bool a2], .agg [.str a3, .str a4, .bool a5]] [] (fun v s => k (v, s))) :=
  (laws_eqWrite_p (a0, (a1, a2)) (a3, (a4, a5))).bind (H := fun (y : Bool) (k : AV × St → Option Res) => (fun (y : Bool) => k ((.bool y : AV), ([] : St))) y) (fun y => par_ret _)

def laws_eqWriteS_g (args : List AV) (st : St) (k : K1) : Option Res :=
  onPats [.lst tWrite, .lst tWrite] [] args st (fun p q => laws_eqWriteS_k p.1 p.2.1 (fun (y : Bool) => k (.bool y) []))
    (none)

theorem laws_eqWriteS_q (a0 : (List dWrite)) (a1 : (List dWrite)) : Par (fun k : AV × St → Option Res => laws_eqWriteS_g [.lst tWrite a0, .lst tWrite a1] [] (fun v s => k (v, s))) :=
  (laws_eqWriteS_p a0 a1).bind (H := fun (y : Bool) (k : AV × St → Option Res) => (fun (y : Bool) => k ((.bool y : AV), ([] : St))) y) (fun y => par_ret _)

def laws_eqTxn_g (args : List AV) (st : St) (k : K1) : Option Res :=
  onPats [.agg [.int .i64, .int .i64, .int .i64, .int .i64, .lst tRange, .lst tWrite, .bool, .str], .agg [.int .i64, .int .i64, .int .i64, .int .i64, .lst tRange, .lst tWrite, .bool, .str]] [] args st (fun p q => laws_eqTxn_k (p.1.1, (p.1.2.1, (p.1.2.2.1, (p.1.2.2.2.1, (p.1.2.2.2.2.1, (p.1.2.2.2.2.2.1, (p.1.2.2.2.2.2.2.1, p.1.2.2.2.2.2.2.2.1))))))) (p.2.1.1, (p.2.1.2.1, (p.2.1.2.2.1, (p.2.1.2.2.2.1, (p.2.1.2.2.2.2.1, (p.2.1.2.2.2.2.2.1, (p.2.1.2.2.2.2.2.2.1, p.2.1.2.2.2.2.2.2.2.1))))))) (fun (y : Bool) => k (.bool y) []))
    (none)

theorem laws_eqTxn_q (a0 : Int) (a1 : Int) (a2 : Int) (a3 : Int) (a4 : (List dRange)) (a5 : (List dWrite)) (a6 : Bool) (a7 : ByteArray) (a8 : Int) (a9 : Int) (a10 : Int) (a11 : Int) (a12 : (List dRange)) (a13 : (List dWrite)) (a14 : Bool) (a15 : ByteArray) : Par (fun k : AV × St → Option Res => laws_eqTxn_g [.agg [.int .i64 a0, .int .i64 a1, .int .i64 a2, .int .i64 a3, .lst tRange a4, .lst tWrite a5, .bool a6, .str a7], .agg [.int .i64 a8, .int .i64 a9, .int .i64 a10, .int .i64 a11, .lst tRange a12, .lst tWrite a13, .bool a14, .str a15]] [] (fun v s => k (v, s))) :=
  (laws_eqTxn_p (a0, (a1, (a2, (a3, (a4, (a5, (a6, a7))))))) (a8, (a9, (a10, (a11, (a12, (a13, (a14, a15)))))))).bind (H := fun (y : Bool) (k : AV × St → Option Res) => (fun (y : Bool) => k ((.bool y : AV), ([] : St))) y) (fun y => par_ret _)

def laws_eqTxnS_g (args : List AV) (st : St) (k : K1) : Option Res :=
  onPats [.lst tTxn, .lst tTxn] [] args st (fun p q => laws_eqTxnS_k p.1 p.2.1 (fun (y : Bool) => k (.bool y) []))
    (none)

theorem laws_eqTxnS_q (a0 : (List dTxn)) (a1 : (List dTxn)) : Par (fun k : AV × St → Option Res => laws_eqTxnS_g [.lst tTxn a0, .lst tTxn a1] [] (fun v s => k (v, s))) :=
  (laws_eqTxnS_p a0 a1).bind (H := fun (y : Bool) (k : AV × St → Option Res) => (fun (y : Bool) => k ((.bool y : AV), ([] : St))) y) (fun y => par_ret _)

def laws_eqBase_g (args : List AV) (st : St) (k : K1) : Option Res :=
  onPats [.agg [.lst tVersion, .lst tTxn, .lst tTxn, .int .i64, .int .i64], .agg [.lst tVersion, .lst tTxn, .lst tTxn, .int .i64, .int .i64]] [] args st (fun p q => laws_eqBase_k (p.1.1, (p.1.2.1, (p.1.2.2.1, (p.1.2.2.2.1, p.1.2.2.2.2.1)))) (p.2.1.1, (p.2.1.2.1, (p.2.1.2.2.1, (p.2.1.2.2.2.1, p.2.1.2.2.2.2.1)))) (fun (y : Bool) => k (.bool y) []))
    (none)

theorem laws_eqBase_q (a0 : (List dVersion)) (a1 : (List dTxn)) (a2 : (List dTxn)) (a3 : Int) (a4 : Int) (a5 : (List dVersion)) (a6 : (List dTxn)) (a7 : (List dTxn)) (a8 : Int) (a9 : Int) : Par (fun k : AV × St → Option Res => laws_eqBase_g [.agg [.lst tVersion a0, .lst tTxn a1, .lst tTxn a2, .int .i64 a3, .int .i64 a4], .agg [.lst tVersion a5, .lst tTxn a6, .lst tTxn a7, .int .i64 a8, .int .i64 a9]] [] (fun v s => k (v, s))) :=
  (laws_eqBase_p (a0, (a1, (a2, (a3, a4)))) (a5, (a6, (a7, (a8, a9))))).bind (H := fun (y : Bool) (k : AV × St → Option Res) => (fun (y : Bool) => k ((.bool y : AV), ([] : St))) y) (fun y => par_ret _)

def laws_eqEngine_g (args : List AV) (st : St) (k : K1) : Option Res :=
  onPats [.agg [.lst tVersion, .lst tTxn, .lst tTxn, .int .i64, .int .i64, .lst tTxn], .agg [.lst tVersion, .lst tTxn, .lst tTxn, .int .i64, .int .i64, .lst tTxn]] [] args st (fun p q => laws_eqEngine_k ((p.1.1, (p.1.2.1, (p.1.2.2.1, (p.1.2.2.2.1, p.1.2.2.2.2.1)))), p.1.2.2.2.2.2.1) ((p.2.1.1, (p.2.1.2.1, (p.2.1.2.2.1, (p.2.1.2.2.2.1, p.2.1.2.2.2.2.1)))), p.2.1.2.2.2.2.2.1) (fun (y : Bool) => k (.bool y) []))
    (none)

theorem laws_eqEngine_q (a0 : (List dVersion)) (a1 : (List dTxn)) (a2 : (List dTxn)) (a3 : Int) (a4 : Int) (a5 : (List dTxn)) (a6 : (List dVersion)) (a7 : (List dTxn)) (a8 : (List dTxn)) (a9 : Int) (a10 : Int) (a11 : (List dTxn)) : Par (fun k : AV × St → Option Res => laws_eqEngine_g [.agg [.lst tVersion a0, .lst tTxn a1, .lst tTxn a2, .int .i64 a3, .int .i64 a4, .lst tTxn a5], .agg [.lst tVersion a6, .lst tTxn a7, .lst tTxn a8, .int .i64 a9, .int .i64 a10, .lst tTxn a11]] [] (fun v s => k (v, s))) :=
  (laws_eqEngine_p ((a0, (a1, (a2, (a3, a4)))), a5) ((a6, (a7, (a8, (a9, a10)))), a11)).bind (H := fun (y : Bool) (k : AV × St → Option Res) => (fun (y : Bool) => k ((.bool y : AV), ([] : St))) y) (fun y => par_ret _)

def laws_eqStringS_g (args : List AV) (st : St) (k : K1) : Option Res :=
  onPats [.lst .str, .lst .str] [] args st (fun p q => laws_eqStringS_k p.1 p.2.1 (fun (y : Bool) => k (.bool y) []))
    (none)

theorem laws_eqStringS_q (a0 : (List ByteArray)) (a1 : (List ByteArray)) : Par (fun k : AV × St → Option Res => laws_eqStringS_g [.lst .str a0, .lst .str a1] [] (fun v s => k (v, s))) :=
  (laws_eqStringS_p a0 a1).bind (H := fun (y : Bool) (k : AV × St → Option Res) => (fun (y : Bool) => k ((.bool y : AV), ([] : St))) y) (fun y => par_ret _)

def laws_eqPut_g (args : List AV) (st : St) (k : K1) : Option Res :=
  onPats [.agg [.int .i64, .str], .agg [.int .i64, .str]] [] args st (fun p q => laws_eqPut_k (p.1.1, p.1.2.1) (p.2.1.1, p.2.1.2.1) (fun (y : Bool) => k (.bool y) []))
    (none)

theorem laws_eqPut_q (a0 : Int) (a1 : ByteArray) (a2 : Int) (a3 : ByteArray) : Par (fun k : AV × St → Option Res => laws_eqPut_g [.agg [.int .i64 a0, .str a1], .agg [.int .i64 a2, .str a3]] [] (fun v s => k (v, s))) :=
  (laws_eqPut_p (a0, a1) (a2, a3)).bind (H := fun (y : Bool) (k : AV × St → Option Res) => (fun (y : Bool) => k ((.bool y : AV), ([] : St))) y) (fun y => par_ret _)

def laws_eqPutS_g (args : List AV) (st : St) (k : K1) : Option Res :=
  onPats [.lst tPut, .lst tPut] [] args st (fun p q => laws_eqPutS_k p.1 p.2.1 (fun (y : Bool) => k (.bool y) []))
    (none)

theorem laws_eqPutS_q (a0 : (List dPut)) (a1 : (List dPut)) : Par (fun k : AV × St → Option Res => laws_eqPutS_g [.lst tPut a0, .lst tPut a1] [] (fun v s => k (v, s))) :=
  (laws_eqPutS_p a0 a1).bind (H := fun (y : Bool) (k : AV × St → Option Res) => (fun (y : Bool) => k ((.bool y : AV), ([] : St))) y) (fun y => par_ret _)

def laws_eqDisk_g (args : List AV) (st : St) (k : K1) : Option Res :=
  onPats [.agg [.lst .str, .lst tPut], .agg [.lst .str, .lst tPut]] [] args st (fun p q => laws_eqDisk_k (p.1.1, p.1.2.1) (p.2.1.1, p.2.1.2.1) (fun (y : Bool) => k (.bool y) []))
    (none)

theorem laws_eqDisk_q (a0 : (List ByteArray)) (a1 : (List dPut)) (a2 : (List ByteArray)) (a3 : (List dPut)) : Par (fun k : AV × St → Option Res => laws_eqDisk_g [.agg [.lst .str a0, .lst tPut a1], .agg [.lst .str a2, .lst tPut a3]] [] (fun v s => k (v, s))) :=
  (laws_eqDisk_p (a0, a1) (a2, a3)).bind (H := fun (y : Bool) (k : AV × St → Option Res) => (fun (y : Bool) => k ((.bool y : AV), ([] : St))) y) (fun y => par_ret _)

def laws_eqStore_g (args : List AV) (st : St) (k : K1) : Option Res :=
  onPats [.agg [.lst tVersion, .lst tTxn, .lst tTxn, .int .i64, .int .i64, .lst tTxn, .lst .str, .lst tPut], .agg [.lst tVersion, .lst tTxn, .lst tTxn, .int .i64, .int .i64, .lst tTxn, .lst .str, .lst tPut]] [] args st (fun p q => laws_eqStore_k (((p.1.1, (p.1.2.1, (p.1.2.2.1, (p.1.2.2.2.1, p.1.2.2.2.2.1)))), p.1.2.2.2.2.2.1), (p.1.2.2.2.2.2.2.1, p.1.2.2.2.2.2.2.2.1)) (((p.2.1.1, (p.2.1.2.1, (p.2.1.2.2.1, (p.2.1.2.2.2.1, p.2.1.2.2.2.2.1)))), p.2.1.2.2.2.2.2.1), (p.2.1.2.2.2.2.2.2.1, p.2.1.2.2.2.2.2.2.2.1)) (fun (y : Bool) => k (.bool y) []))
    (none)

theorem laws_eqStore_q (a0 : (List dVersion)) (a1 : (List dTxn)) (a2 : (List dTxn)) (a3 : Int) (a4 : Int) (a5 : (List dTxn)) (a6 : (List ByteArray)) (a7 : (List dPut)) (a8 : (List dVersion)) (a9 : (List dTxn)) (a10 : (List dTxn)) (a11 : Int) (a12 : Int) (a13 : (List dTxn)) (a14 : (List ByteArray)) (a15 : (List dPut)) : Par (fun k : AV × St → Option Res => laws_eqStore_g [.agg [.lst tVersion a0, .lst tTxn a1, .lst tTxn a2, .int .i64 a3, .int .i64 a4, .lst tTxn a5, .lst .str a6, .lst tPut a7], .agg [.lst tVersion a8, .lst tTxn a9, .lst tTxn a10, .int .i64 a11, .int .i64 a12, .lst tTxn a13, .lst .str a14, .lst tPut a15]] [] (fun v s => k (v, s))) :=
  (laws_eqStore_p (((a0, (a1, (a2, (a3, a4)))), a5), (a6, a7)) (((a8, (a9, (a10, (a11, a12)))), a13), (a14, a15))).bind (H := fun (y : Bool) (k : AV × St → Option Res) => (fun (y : Bool) => k ((.bool y : AV), ([] : St))) y) (fun y => par_ret _)

def laws_markText_g (args : List AV) (st : St) (k : K1) : Option Res :=
  onPats [.int .i64] [] args st (fun p q => laws_markText_k p.1 (fun (y : ByteArray) => k (.str y) []))
    (none)

theorem laws_markText_q (a0 : Int) : Par (fun k : AV × St → Option Res => laws_markText_g [.int .i64 a0] [] (fun v s => k (v, s))) :=
  (laws_markText_p a0).bind (H := fun (y : ByteArray) (k : AV × St → Option Res) => (fun (y : ByteArray) => k ((.str y : AV), ([] : St))) y) (fun y => par_ret _)

def laws_markVersionS_g (args : List AV) (st : St) (k : K1) : Option Res :=
  onPats [.nilS, .int .i64] [] args st (fun p q => laws_markVersionS_vn_k p.2.1 (fun (y : Int) => k (.int .i64 y) []))
    (none)

theorem laws_markVersionS_vn_q (a0 : Int) : Par (fun k : AV × St → Option Res => laws_markVersionS_g [.nilS, .int .i64 a0] [] (fun v s => k (v, s))) :=
  (laws_markVersionS_vn_p a0).bind (H := fun (y : Int) (k : AV × St → Option Res) => (fun (y : Int) => k ((.int .i64 y : AV), ([] : St))) y) (fun y => par_ret _)

def laws_markTxnS_g (args : List AV) (st : St) (k : K1) : Option Res :=
  onPats [.nilS, .int .i64] [] args st (fun p q => laws_markTxnS_vn_k p.2.1 (fun (y : Int) => k (.int .i64 y) []))
    (none)

theorem laws_markTxnS_vn_q (a0 : Int) : Par (fun k : AV × St → Option Res => laws_markTxnS_g [.nilS, .int .i64 a0] [] (fun v s => k (v, s))) :=
  (laws_markTxnS_vn_p a0).bind (H := fun (y : Int) (k : AV × St → Option Res) => (fun (y : Int) => k ((.int .i64 y : AV), ([] : St))) y) (fun y => par_ret _)

def laws_markBase_g (args : List AV) (st : St) (k : K1) : Option Res :=
  onPats [.agg [.nilS, .nilS, .nilS, .int .i64, .int .i64], .int .i64] [] args st (fun p q => laws_markBase_va_k p.1.2.2.2.1 p.1.2.2.2.2.1 p.2.1 (fun (y : Int) => k (.int .i64 y) []))
    (none)

theorem laws_markBase_va_q (a0 : Int) (a1 : Int) (a2 : Int) : Par (fun k : AV × St → Option Res => laws_markBase_g [.agg [.nilS, .nilS, .nilS, .int .i64 a0, .int .i64 a1], .int .i64 a2] [] (fun v s => k (v, s))) :=
  (laws_markBase_va_p a0 a1 a2).bind (H := fun (y : Int) (k : AV × St → Option Res) => (fun (y : Int) => k ((.int .i64 y : AV), ([] : St))) y) (fun y => par_ret _)

def laws_markEngine_g (args : List AV) (st : St) (k : K1) : Option Res :=
  onPats [.agg [.nilS, .nilS, .nilS, .int .i64, .int .i64, .nilS], .int .i64] [] args st (fun p q => laws_markEngine_va_k p.1.2.2.2.1 p.1.2.2.2.2.1 p.2.1 (fun (y : Int) => k (.int .i64 y) []))
    (none)

theorem laws_markEngine_va_q (a0 : Int) (a1 : Int) (a2 : Int) : Par (fun k : AV × St → Option Res => laws_markEngine_g [.agg [.nilS, .nilS, .nilS, .int .i64 a0, .int .i64 a1, .nilS], .int .i64 a2] [] (fun v s => k (v, s))) :=
  (laws_markEngine_va_p a0 a1 a2).bind (H := fun (y : Int) (k : AV × St → Option Res) => (fun (y : Int) => k ((.int .i64 y : AV), ([] : St))) y) (fun y => par_ret _)

def laws_markStringS_g (args : List AV) (st : St) (k : K1) : Option Res :=
  onPats [.own 0, .int .i64] [.arr .str] args st (fun p q => laws_markStringS_vo_k p.2.1 q.1 (fun (y : (Int × (List ByteArray))) => k (.int .i64 y.1) [.arr .str y.2]))
    (none)

theorem laws_markStringS_vo_q (a0 : Int) (a1 : (List ByteArray)) : Par (fun k : AV × St → Option Res => laws_markStringS_g [.own 0, .int .i64 a0] [.arr .str a1] (fun v s => k (v, s))) :=
  (laws_markStringS_vo_p a0 a1).bind (H := fun (y : (Int × (List ByteArray))) (k : AV × St → Option Res) => (fun (y : (Int × (List ByteArray))) => k ((.int .i64 y.1 : AV), ([.arr .str y.2] : St))) y) (fun y => par_ret _)

def laws_markPutS_g (args : List AV) (st : St) (k : K1) : Option Res :=
  onPats [.nilS, .int .i64] [] args st (fun p q => laws_markPutS_vn_k p.2.1 (fun (y : Int) => k (.int .i64 y) []))
    (none)

theorem laws_markPutS_vn_q (a0 : Int) : Par (fun k : AV × St → Option Res => laws_markPutS_g [.nilS, .int .i64 a0] [] (fun v s => k (v, s))) :=
  (laws_markPutS_vn_p a0).bind (H := fun (y : Int) (k : AV × St → Option Res) => (fun (y : Int) => k ((.int .i64 y : AV), ([] : St))) y) (fun y => par_ret _)

def laws_markDisk_g (args : List AV) (st : St) (k : K1) : Option Res :=
  onPats [.agg [.own 0, .nilS], .int .i64] [.arr .str] args st (fun p q => laws_markDisk_va_k p.2.1 q.1 (fun (y : (Int × (List ByteArray))) => k (.int .i64 y.1) [.arr .str y.2]))
    (none)

theorem laws_markDisk_va_q (a0 : Int) (a1 : (List ByteArray)) : Par (fun k : AV × St → Option Res => laws_markDisk_g [.agg [.own 0, .nilS], .int .i64 a0] [.arr .str a1] (fun v s => k (v, s))) :=
  (laws_markDisk_va_p a0 a1).bind (H := fun (y : (Int × (List ByteArray))) (k : AV × St → Option Res) => (fun (y : (Int × (List ByteArray))) => k ((.int .i64 y.1 : AV), ([.arr .str y.2] : St))) y) (fun y => par_ret _)

def laws_markStore_g (args : List AV) (st : St) (k : K1) : Option Res :=
  onPats [.agg [.nilS, .nilS, .nilS, .int .i64, .int .i64, .nilS, .own 0, .nilS], .int .i64] [.arr .str] args st (fun p q => laws_markStore_va_k p.1.2.2.2.1 p.1.2.2.2.2.1 p.2.1 q.1 (fun (y : (Int × (List ByteArray))) => k (.int .i64 y.1) [.arr .str y.2]))
    (none)

theorem laws_markStore_va_q (a0 : Int) (a1 : Int) (a2 : Int) (a3 : (List ByteArray)) : Par (fun k : AV × St → Option Res => laws_markStore_g [.agg [.nilS, .nilS, .nilS, .int .i64 a0, .int .i64 a1, .nilS, .own 0, .nilS], .int .i64 a2] [.arr .str a3] (fun v s => k (v, s))) :=
  (laws_markStore_va_p a0 a1 a2 a3).bind (H := fun (y : (Int × (List ByteArray))) (k : AV × St → Option Res) => (fun (y : (Int × (List ByteArray))) => k ((.int .i64 y.1 : AV), ([.arr .str y.2] : St))) y) (fun y => par_ret _)

def laws_heldVersionS_g (args : List AV) (st : St) (k : K1) : Option Res :=
  onPats [.lst tVersion, .int .i64] [] args st (fun p q => laws_heldVersionS_k p.1 p.2.1 (fun (y : Int) => k (.int .i64 y) []))
    (none)

theorem laws_heldVersionS_q (a0 : (List dVersion)) (a1 : Int) : Par (fun k : AV × St → Option Res => laws_heldVersionS_g [.lst tVersion a0, .int .i64 a1] [] (fun v s => k (v, s))) :=
  (laws_heldVersionS_p a0 a1).bind (H := fun (y : Int) (k : AV × St → Option Res) => (fun (y : Int) => k ((.int .i64 y : AV), ([] : St))) y) (fun y => par_ret _)

def laws_heldRangeS_g (args : List AV) (st : St) (k : K1) : Option Res :=
  onPats [.lst tRange, .int .i64] [] args st (fun p q => laws_heldRangeS_k p.1 p.2.1 (fun (y : Int) => k (.int .i64 y) []))
    (none)

theorem laws_heldRangeS_q (a0 : (List dRange)) (a1 : Int) : Par (fun k : AV × St → Option Res => laws_heldRangeS_g [.lst tRange a0, .int .i64 a1] [] (fun v s => k (v, s))) :=
  (laws_heldRangeS_p a0 a1).bind (H := fun (y : Int) (k : AV × St → Option Res) => (fun (y : Int) => k ((.int .i64 y : AV), ([] : St))) y) (fun y => par_ret _)

def laws_heldWriteS_g (args : List AV) (st : St) (k : K1) : Option Res :=
  onPats [.lst tWrite, .int .i64] [] args st (fun p q => laws_heldWriteS_k p.1 p.2.1 (fun (y : Int) => k (.int .i64 y) []))
    (none)

theorem laws_heldWriteS_q (a0 : (List dWrite)) (a1 : Int) : Par (fun k : AV × St → Option Res => laws_heldWriteS_g [.lst tWrite a0, .int .i64 a1] [] (fun v s => k (v, s))) :=
  (laws_heldWriteS_p a0 a1).bind (H := fun (y : Int) (k : AV × St → Option Res) => (fun (y : Int) => k ((.int .i64 y : AV), ([] : St))) y) (fun y => par_ret _)

def laws_heldTxnS_g (args : List AV) (st : St) (k : K1) : Option Res :=
  onPats [.lst tTxn, .int .i64] [] args st (fun p q => laws_heldTxnS_k p.1 p.2.1 (fun (y : Int) => k (.int .i64 y) []))
    (none)

theorem laws_heldTxnS_q (a0 : (List dTxn)) (a1 : Int) : Par (fun k : AV × St → Option Res => laws_heldTxnS_g [.lst tTxn a0, .int .i64 a1] [] (fun v s => k (v, s))) :=
  (laws_heldTxnS_p a0 a1).bind (H := fun (y : Int) (k : AV × St → Option Res) => (fun (y : Int) => k ((.int .i64 y : AV), ([] : St))) y) (fun y => par_ret _)

def laws_heldBase_g (args : List AV) (st : St) (k : K1) : Option Res :=
  onPats [.agg [.lst tVersion, .lst tTxn, .lst tTxn, .int .i64, .int .i64], .int .i64] [] args st (fun p q => laws_heldBase_k (p.1.1, (p.1.2.1, (p.1.2.2.1, (p.1.2.2.2.1, p.1.2.2.2.2.1)))) p.2.1 (fun (y : Int) => k (.int .i64 y) []))
    (none)

theorem laws_heldBase_q (a0 : (List dVersion)) (a1 : (List dTxn)) (a2 : (List dTxn)) (a3 : Int) (a4 : Int) (a5 : Int) : Par (fun k : AV × St → Option Res => laws_heldBase_g [.agg [.lst tVersion a0, .lst tTxn a1, .lst tTxn a2, .int .i64 a3, .int .i64 a4], .int .i64 a5] [] (fun v s => k (v, s))) :=
  (laws_heldBase_p (a0, (a1, (a2, (a3, a4)))) a5).bind (H := fun (y : Int) (k : AV × St → Option Res) => (fun (y : Int) => k ((.int .i64 y : AV), ([] : St))) y) (fun y => par_ret _)

def laws_heldEngine_g (args : List AV) (st : St) (k : K1) : Option Res :=
  onPats [.agg [.lst tVersion, .lst tTxn, .lst tTxn, .int .i64, .int .i64, .lst tTxn], .int .i64] [] args st (fun p q => laws_heldEngine_k ((p.1.1, (p.1.2.1, (p.1.2.2.1, (p.1.2.2.2.1, p.1.2.2.2.2.1)))), p.1.2.2.2.2.2.1) p.2.1 (fun (y : Int) => k (.int .i64 y) []))
    (none)

theorem laws_heldEngine_q (a0 : (List dVersion)) (a1 : (List dTxn)) (a2 : (List dTxn)) (a3 : Int) (a4 : Int) (a5 : (List dTxn)) (a6 : Int) : Par (fun k : AV × St → Option Res => laws_heldEngine_g [.agg [.lst tVersion a0, .lst tTxn a1, .lst tTxn a2, .int .i64 a3, .int .i64 a4, .lst tTxn a5], .int .i64 a6] [] (fun v s => k (v, s))) :=
  (laws_heldEngine_p ((a0, (a1, (a2, (a3, a4)))), a5) a6).bind (H := fun (y : Int) (k : AV × St → Option Res) => (fun (y : Int) => k ((.int .i64 y : AV), ([] : St))) y) (fun y => par_ret _)

def laws_heldStringS_g (args : List AV) (st : St) (k : K1) : Option Res :=
  onPats [.lst .str, .int .i64] [] args st (fun p q => laws_heldStringS_k p.1 p.2.1 (fun (y : Int) => k (.int .i64 y) []))
    (none)

theorem laws_heldStringS_q (a0 : (List ByteArray)) (a1 : Int) : Par (fun k : AV × St → Option Res => laws_heldStringS_g [.lst .str a0, .int .i64 a1] [] (fun v s => k (v, s))) :=
  (laws_heldStringS_p a0 a1).bind (H := fun (y : Int) (k : AV × St → Option Res) => (fun (y : Int) => k ((.int .i64 y : AV), ([] : St))) y) (fun y => par_ret _)

def laws_heldPutS_g (args : List AV) (st : St) (k : K1) : Option Res :=
  onPats [.lst tPut, .int .i64] [] args st (fun p q => laws_heldPutS_k p.1 p.2.1 (fun (y : Int) => k (.int .i64 y) []))
    (none)

theorem laws_heldPutS_q (a0 : (List dPut)) (a1 : Int) : Par (fun k : AV × St → Option Res => laws_heldPutS_g [.lst tPut a0, .int .i64 a1] [] (fun v s => k (v, s))) :=
  (laws_heldPutS_p a0 a1).bind (H := fun (y : Int) (k : AV × St → Option Res) => (fun (y : Int) => k ((.int .i64 y : AV), ([] : St))) y) (fun y => par_ret _)

def laws_heldDisk_g (args : List AV) (st : St) (k : K1) : Option Res :=
  onPats [.agg [.lst .str, .lst tPut], .int .i64] [] args st (fun p q => laws_heldDisk_k (p.1.1, p.1.2.1) p.2.1 (fun (y : Int) => k (.int .i64 y) []))
    (none)

theorem laws_heldDisk_q (a0 : (List ByteArray)) (a1 : (List dPut)) (a2 : Int) : Par (fun k : AV × St → Option Res => laws_heldDisk_g [.agg [.lst .str a0, .lst tPut a1], .int .i64 a2] [] (fun v s => k (v, s))) :=
  (laws_heldDisk_p (a0, a1) a2).bind (H := fun (y : Int) (k : AV × St → Option Res) => (fun (y : Int) => k ((.int .i64 y : AV), ([] : St))) y) (fun y => par_ret _)

def laws_heldStore_g (args : List AV) (st : St) (k : K1) : Option Res :=
  onPats [.agg [.lst tVersion, .lst tTxn, .lst tTxn, .int .i64, .int .i64, .lst tTxn, .lst .str, .lst tPut], .int .i64] [] args st (fun p q => laws_heldStore_k (((p.1.1, (p.1.2.1, (p.1.2.2.1, (p.1.2.2.2.1, p.1.2.2.2.2.1)))), p.1.2.2.2.2.2.1), (p.1.2.2.2.2.2.2.1, p.1.2.2.2.2.2.2.2.1)) p.2.1 (fun (y : Int) => k (.int .i64 y) []))
    (none)

theorem laws_heldStore_q (a0 : (List dVersion)) (a1 : (List dTxn)) (a2 : (List dTxn)) (a3 : Int) (a4 : Int) (a5 : (List dTxn)) (a6 : (List ByteArray)) (a7 : (List dPut)) (a8 : Int) : Par (fun k : AV × St → Option Res => laws_heldStore_g [.agg [.lst tVersion a0, .lst tTxn a1, .lst tTxn a2, .int .i64 a3, .int .i64 a4, .lst tTxn a5, .lst .str a6, .lst tPut a7], .int .i64 a8] [] (fun v s => k (v, s))) :=
  (laws_heldStore_p (((a0, (a1, (a2, (a3, a4)))), a5), (a6, a7)) a8).bind (H := fun (y : Int) (k : AV × St → Option Res) => (fun (y : Int) => k ((.int .i64 y : AV), ([] : St))) y) (fun y => par_ret _)

def laws_FnExactStoreNew_g (args : List AV) (st : St) (k : K1) : Option Res :=
  onPats [] [] args st (fun p q => laws_FnExactStoreNew_k  (fun (y : Bool) => k (.bool y) []))
    (none)

theorem laws_FnExactStoreNew_q  : Par (fun k : AV × St → Option Res => laws_FnExactStoreNew_g [] [] (fun v s => k (v, s))) :=
  (laws_FnExactStoreNew_p ).bind (H := fun (y : Bool) (k : AV × St → Option Res) => (fun (y : Bool) => k ((.bool y : AV), ([] : St))) y) (fun y => par_ret _)

end

end Go.VE
