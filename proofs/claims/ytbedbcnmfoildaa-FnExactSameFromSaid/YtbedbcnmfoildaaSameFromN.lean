/- Native programs of the functions, written by gen.py. -/

import Derived.Test.YtbedbcnmfoildaaT0
import Derived.Test.YtbedbcnmfoildaaV28

namespace Go.VE

noncomputable section

set_option linter.unusedVariables false
set_option linter.unusedSimpArgs false
set_option maxRecDepth 100000


def laws_szVersion_d (a0 : dVersion) (a1 : Int) (k : Int → Option Res) : Option Res :=
  bif (decide ((IntKind.wrap .i64 (a1 - (a0.1.size : Int))) < (0 : Int))) then
    k (-1 : Int)
  else
    bif (decide ((IntKind.wrap .i64 ((IntKind.wrap .i64 (a1 - (a0.1.size : Int))) - (a0.2.1.size : Int))) < (0 : Int))) then
      k (-1 : Int)
    else
      k (IntKind.wrap .i64 ((IntKind.wrap .i64 (a1 - (a0.1.size : Int))) - (a0.2.1.size : Int)))

theorem laws_szVersion_h : ∃ g : dVersion → Int → (Int → Option Res) → Option Res, g = laws_szVersion_d := ⟨_, rfl⟩
def laws_szVersion_k : dVersion → Int → (Int → Option Res) → Option Res := Classical.choose laws_szVersion_h
theorem laws_szVersion_e : laws_szVersion_k = laws_szVersion_d := Classical.choose_spec laws_szVersion_h

theorem laws_szVersion_p (a0 : dVersion) (a1 : Int) : Par (laws_szVersion_k a0 a1) := by
  rw [laws_szVersion_e]
  unfold laws_szVersion_d
  exact (par_bif (par_ret _) (par_bif (par_ret _) (par_ret _)))

def laws_szVersionS_b0 (x : ((List dVersion) × Int × Int × Int)) (k : ((List dVersion) × Int × Int × Int) ⊕ (((List dVersion) × Int × Int × Int) ⊕ ((List dVersion) × Int × Int × Int)) → Option Res) : Option Res :=
    bif (decide (x.2.2.2 < (x.1.length : Int))) then
      if 0 ≤ x.2.2.2 ∧ x.2.2.2 < (x.1.length : Int) then
        laws_szVersion_k (rd (Ty.zero tVersion) x.1 x.2.2.2) x.2.1 (fun y3 =>
          bif (decide (y3 < (0 : Int))) then
            k (.inr (.inl (x.1, y3, (-1 : Int), x.2.2.2)))
          else
            k (.inl (x.1, y3, x.2.2.1, (IntKind.wrap .i64 (x.2.2.2 + (1 : Int))))))
      else none
    else
      k (.inr (.inr (x.1, x.2.1, x.2.2.1, x.2.2.2)))

theorem laws_szVersionS_bp0 (x : ((List dVersion) × Int × Int × Int)) : Par (laws_szVersionS_b0 x) := by
  unfold laws_szVersionS_b0
  exact (par_bif (par_ite (c := 0 ≤ x.2.2.2 ∧ x.2.2.2 < (x.1.length : Int)) ((laws_szVersion_p (rd (Ty.zero tVersion) x.1 x.2.2.2) x.2.1).bind fun y3 => (par_bif (par_ret _) (par_ret _))) par_none) (par_ret _))

def laws_szVersionS_d (a0 : (List dVersion)) (a1 : Int) (k : Int → Option Res) : Option Res :=
  bif (decide ((IntKind.wrap .i64 (a1 - (a0.length : Int))) < (0 : Int))) then
    k (-1 : Int)
  else
    loopK laws_szVersionS_b0 Fuel (a0, (IntKind.wrap .i64 (a1 - (a0.length : Int))), (0 : Int), (0 : Int)) (Sum.elim (fun z1 =>
      k z1.2.2.1) (fun z2 =>
      k z2.2.1))

theorem laws_szVersionS_h : ∃ g : (List dVersion) → Int → (Int → Option Res) → Option Res, g = laws_szVersionS_d := ⟨_, rfl⟩
def laws_szVersionS_k : (List dVersion) → Int → (Int → Option Res) → Option Res := Classical.choose laws_szVersionS_h
theorem laws_szVersionS_e : laws_szVersionS_k = laws_szVersionS_d := Classical.choose_spec laws_szVersionS_h

theorem laws_szVersionS_p (a0 : (List dVersion)) (a1 : Int) : Par (laws_szVersionS_k a0 a1) := by
  rw [laws_szVersionS_e]
  unfold laws_szVersionS_d
  exact (par_bif (par_ret _) ((par_loop laws_szVersionS_bp0 Fuel (a0, (IntKind.wrap .i64 (a1 - (a0.length : Int))), (0 : Int), (0 : Int))).bind2 (fun z1 => (par_ret _)) (fun z2 => (par_ret _))))

def laws_toVersion_d (a0 : dVersion) (k : (ByteArray × ByteArray × Bool × Int) → Option Res) : Option Res :=
  k (a0.1, a0.2.1, a0.2.2.1, a0.2.2.2)

theorem laws_toVersion_h : ∃ g : dVersion → ((ByteArray × ByteArray × Bool × Int) → Option Res) → Option Res, g = laws_toVersion_d := ⟨_, rfl⟩
def laws_toVersion_k : dVersion → ((ByteArray × ByteArray × Bool × Int) → Option Res) → Option Res := Classical.choose laws_toVersion_h
theorem laws_toVersion_e : laws_toVersion_k = laws_toVersion_d := Classical.choose_spec laws_toVersion_h

theorem laws_toVersion_p (a0 : dVersion) : Par (laws_toVersion_k a0) := by
  rw [laws_toVersion_e]
  unfold laws_toVersion_d
  exact (par_ret _)

def laws_toVersionS_b0 (x : ((List dVersion) × Int × (List dVersion))) (k : ((List dVersion) × Int × (List dVersion)) ⊕ ((List dVersion) × Int × (List dVersion)) → Option Res) : Option Res :=
    bif (decide (x.2.1 < (x.1.length : Int))) then
      if 0 ≤ x.2.1 ∧ x.2.1 < (x.1.length : Int) then
        laws_toVersion_k (rd (Ty.zero tVersion) x.1 x.2.1) (fun y2 =>
          if 0 ≤ x.2.1 ∧ x.2.1 < (x.2.2.length : Int) then
            k (.inl (x.1, (IntKind.wrap .i64 (x.2.1 + (1 : Int))), (x.2.2.set x.2.1.toNat y2)))
          else none)
      else none
    else
      k (.inr (x.1, x.2.1, x.2.2))

theorem laws_toVersionS_bp0 (x : ((List dVersion) × Int × (List dVersion))) : Par (laws_toVersionS_b0 x) := by
  unfold laws_toVersionS_b0
  exact (par_bif (par_ite (c := 0 ≤ x.2.1 ∧ x.2.1 < (x.1.length : Int)) ((laws_toVersion_p (rd (Ty.zero tVersion) x.1 x.2.1)).bind fun y2 => (par_ite (c := 0 ≤ x.2.1 ∧ x.2.1 < (x.2.2.length : Int)) (par_ret _) par_none)) par_none) (par_ret _))

def laws_toVersionS_d (a0 : (List dVersion)) (k : (List dVersion) → Option Res) : Option Res :=
  if 0 ≤ (a0.length : Int) ∧ (a0.length : Int) ≤ (a0.length : Int) ∧ (a0.length : Int) ≤ (VE.maxLen : Int) then
    loopK laws_toVersionS_b0 Fuel (a0, (0 : Int), (List.replicate (a0.length : Int).toNat (Ty.zero tVersion))) (fun z1 =>
      k z1.2.2)
  else none

theorem laws_toVersionS_h : ∃ g : (List dVersion) → ((List dVersion) → Option Res) → Option Res, g = laws_toVersionS_d := ⟨_, rfl⟩
def laws_toVersionS_k : (List dVersion) → ((List dVersion) → Option Res) → Option Res := Classical.choose laws_toVersionS_h
theorem laws_toVersionS_e : laws_toVersionS_k = laws_toVersionS_d := Classical.choose_spec laws_toVersionS_h

theorem laws_toVersionS_p (a0 : (List dVersion)) : Par (laws_toVersionS_k a0) := by
  rw [laws_toVersionS_e]
  unfold laws_toVersionS_d
  exact (par_ite (c := 0 ≤ (a0.length : Int) ∧ (a0.length : Int) ≤ (a0.length : Int) ∧ (a0.length : Int) ≤ (VE.maxLen : Int)) ((par_loop laws_toVersionS_bp0 Fuel (a0, (0 : Int), (List.replicate (a0.length : Int).toNat (Ty.zero tVersion)))).bind fun z1 => (par_ret _)) par_none)

def spec_l06All_d  (k : (ByteArray × ByteArray) → Option Res) : Option Res :=
  k ((⟨#[97]⟩ : ByteArray), (⟨#[122, 122, 122]⟩ : ByteArray))

theorem spec_l06All_h : ∃ g : ((ByteArray × ByteArray) → Option Res) → Option Res, g = spec_l06All_d := ⟨_, rfl⟩
def spec_l06All_k : ((ByteArray × ByteArray) → Option Res) → Option Res := Classical.choose spec_l06All_h
theorem spec_l06All_e : spec_l06All_k = spec_l06All_d := Classical.choose_spec spec_l06All_h

theorem spec_l06All_p  : Par (spec_l06All_k ) := by
  rw [spec_l06All_e]
  unfold spec_l06All_d
  exact (par_ret _)

def spec_InRange_d (a0 : dRange) (a1 : ByteArray) (k : Bool → Option Res) : Option Res :=
  bif (!(strLess a1 a0.1)) then
    k ((strLess a1 a0.2) || (strEq a1 a0.2))
  else
    k false

theorem spec_InRange_h : ∃ g : dRange → ByteArray → (Bool → Option Res) → Option Res, g = spec_InRange_d := ⟨_, rfl⟩
def spec_InRange_k : dRange → ByteArray → (Bool → Option Res) → Option Res := Classical.choose spec_InRange_h
theorem spec_InRange_e : spec_InRange_k = spec_InRange_d := Classical.choose_spec spec_InRange_h

theorem spec_InRange_p (a0 : dRange) (a1 : ByteArray) : Par (spec_InRange_k a0 a1) := by
  rw [spec_InRange_e]
  unfold spec_InRange_d
  exact (par_bif (par_ret _) (par_ret _))

def spec_l06Keys_b2 (x : ((List dVersion) × Int × ByteArray × Int × ByteArray × ByteArray × (List ByteArray) × (List ByteArray))) (k : ((List dVersion) × Int × ByteArray × Int × ByteArray × ByteArray × (List ByteArray) × (List ByteArray)) ⊕ ((List dVersion) × Int × ByteArray × Int × ByteArray × ByteArray × (List ByteArray) × (List ByteArray)) → Option Res) : Option Res :=
    bif (decide (x.2.2.2.1 < (x.2.2.2.2.2.2.1.length : Int))) then
      if 0 ≤ x.2.2.2.1 ∧ x.2.2.2.1 < (x.2.2.2.2.2.2.1.length : Int) then
        bif (strLess (x.2.2.2.2.2.2.1.getD x.2.2.2.1.toNat (Ty.zero .str)) x.2.2.1) then
          if 0 ≤ x.2.2.2.1 ∧ x.2.2.2.1 < (x.2.2.2.2.2.2.1.length : Int) then
            if x.2.2.2.2.2.2.2.length + [(x.2.2.2.2.2.2.1.getD x.2.2.2.1.toNat (Ty.zero .str))].length ≤ VE.maxLen then
              k (.inl (x.1, x.2.1, x.2.2.1, (IntKind.wrap .i64 (x.2.2.2.1 + (1 : Int))), x.2.2.2.2.1, x.2.2.2.2.2.1, x.2.2.2.2.2.2.1, (x.2.2.2.2.2.2.2 ++ [(x.2.2.2.2.2.2.1.getD x.2.2.2.1.toNat (Ty.zero .str))])))
            else none
          else none
        else
          k (.inl (x.1, x.2.1, x.2.2.1, (IntKind.wrap .i64 (x.2.2.2.1 + (1 : Int))), x.2.2.2.2.1, x.2.2.2.2.2.1, x.2.2.2.2.2.2.1, x.2.2.2.2.2.2.2))
      else none
    else
      k (.inr (x.1, x.2.1, x.2.2.1, x.2.2.2.1, x.2.2.2.2.1, x.2.2.2.2.2.1, x.2.2.2.2.2.2.1, x.2.2.2.2.2.2.2))

theorem spec_l06Keys_bp2 (x : ((List dVersion) × Int × ByteArray × Int × ByteArray × ByteArray × (List ByteArray) × (List ByteArray))) : Par (spec_l06Keys_b2 x) := by
  unfold spec_l06Keys_b2
  exact (par_bif (par_ite (c := 0 ≤ x.2.2.2.1 ∧ x.2.2.2.1 < (x.2.2.2.2.2.2.1.length : Int)) (par_bif (par_ite (c := 0 ≤ x.2.2.2.1 ∧ x.2.2.2.1 < (x.2.2.2.2.2.2.1.length : Int)) (par_ite (c := x.2.2.2.2.2.2.2.length + [(x.2.2.2.2.2.2.1.getD x.2.2.2.1.toNat (Ty.zero .str))].length ≤ VE.maxLen) (par_ret _) par_none) par_none) (par_ret _)) par_none) (par_ret _))

def spec_l06Keys_b4 (x : ((List dVersion) × Int × ByteArray × Int × ByteArray × ByteArray × (List ByteArray) × (List ByteArray))) (k : ((List dVersion) × Int × ByteArray × Int × ByteArray × ByteArray × (List ByteArray) × (List ByteArray)) ⊕ ((List dVersion) × Int × ByteArray × Int × ByteArray × ByteArray × (List ByteArray) × (List ByteArray)) → Option Res) : Option Res :=
    bif (decide (x.2.2.2.1 < (x.2.2.2.2.2.2.1.length : Int))) then
      if 0 ≤ x.2.2.2.1 ∧ x.2.2.2.1 < (x.2.2.2.2.2.2.1.length : Int) then
        bif (!((strLess (x.2.2.2.2.2.2.1.getD x.2.2.2.1.toNat (Ty.zero .str)) x.2.2.1) || (strEq (x.2.2.2.2.2.2.1.getD x.2.2.2.1.toNat (Ty.zero .str)) x.2.2.1))) then
          if 0 ≤ x.2.2.2.1 ∧ x.2.2.2.1 < (x.2.2.2.2.2.2.1.length : Int) then
            if x.2.2.2.2.2.2.2.length + [(x.2.2.2.2.2.2.1.getD x.2.2.2.1.toNat (Ty.zero .str))].length ≤ VE.maxLen then
              k (.inl (x.1, x.2.1, x.2.2.1, (IntKind.wrap .i64 (x.2.2.2.1 + (1 : Int))), x.2.2.2.2.1, x.2.2.2.2.2.1, x.2.2.2.2.2.2.1, (x.2.2.2.2.2.2.2 ++ [(x.2.2.2.2.2.2.1.getD x.2.2.2.1.toNat (Ty.zero .str))])))
            else none
          else none
        else
          k (.inl (x.1, x.2.1, x.2.2.1, (IntKind.wrap .i64 (x.2.2.2.1 + (1 : Int))), x.2.2.2.2.1, x.2.2.2.2.2.1, x.2.2.2.2.2.2.1, x.2.2.2.2.2.2.2))
      else none
    else
      k (.inr (x.1, x.2.1, x.2.2.1, x.2.2.2.1, x.2.2.2.2.1, x.2.2.2.2.2.1, x.2.2.2.2.2.2.1, x.2.2.2.2.2.2.2))

theorem spec_l06Keys_bp4 (x : ((List dVersion) × Int × ByteArray × Int × ByteArray × ByteArray × (List ByteArray) × (List ByteArray))) : Par (spec_l06Keys_b4 x) := by
  unfold spec_l06Keys_b4
  exact (par_bif (par_ite (c := 0 ≤ x.2.2.2.1 ∧ x.2.2.2.1 < (x.2.2.2.2.2.2.1.length : Int)) (par_bif (par_ite (c := 0 ≤ x.2.2.2.1 ∧ x.2.2.2.1 < (x.2.2.2.2.2.2.1.length : Int)) (par_ite (c := x.2.2.2.2.2.2.2.length + [(x.2.2.2.2.2.2.1.getD x.2.2.2.1.toNat (Ty.zero .str))].length ≤ VE.maxLen) (par_ret _) par_none) par_none) (par_ret _)) par_none) (par_ret _))

def spec_l06Keys_b0 (x : ((List dVersion) × Int × ByteArray × ByteArray × (List ByteArray))) (k : ((List dVersion) × Int × ByteArray × ByteArray × (List ByteArray)) ⊕ ((List dVersion) × Int × ByteArray × ByteArray × (List ByteArray)) → Option Res) : Option Res :=
    bif (decide (x.2.1 < (x.1.length : Int))) then
      if 0 ≤ x.2.1 ∧ x.2.1 < (x.1.length : Int) then
        spec_InRange_k (x.2.2.1, x.2.2.2.1) ((rd (Ty.zero tVersion) x.1 x.2.1).1) (fun y2 =>
          bif (!y2) then
            k (.inl (x.1, (IntKind.wrap .i64 (x.2.1 + (1 : Int))), x.2.2.1, x.2.2.2.1, x.2.2.2.2))
          else
            loopK spec_l06Keys_b2 Fuel (x.1, x.2.1, (rd (Ty.zero tVersion) x.1 x.2.1).1, (0 : Int), x.2.2.1, x.2.2.2.1, x.2.2.2.2, ([] : List ByteArray)) (fun z3 =>
              if z3.2.2.2.2.2.2.2.length + [z3.2.2.1].length ≤ VE.maxLen then
                loopK spec_l06Keys_b4 Fuel (z3.1, z3.2.1, z3.2.2.1, (0 : Int), z3.2.2.2.2.1, z3.2.2.2.2.2.1, z3.2.2.2.2.2.2.1, (z3.2.2.2.2.2.2.2 ++ [z3.2.2.1])) (fun z4 =>
                  k (.inl (z4.1, (IntKind.wrap .i64 (z4.2.1 + (1 : Int))), z4.2.2.2.2.1, z4.2.2.2.2.2.1, z4.2.2.2.2.2.2.2)))
              else none))
      else none
    else
      k (.inr (x.1, x.2.1, x.2.2.1, x.2.2.2.1, x.2.2.2.2))

theorem spec_l06Keys_bp0 (x : ((List dVersion) × Int × ByteArray × ByteArray × (List ByteArray))) : Par (spec_l06Keys_b0 x) := by
  unfold spec_l06Keys_b0
  exact (par_bif (par_ite (c := 0 ≤ x.2.1 ∧ x.2.1 < (x.1.length : Int)) ((spec_InRange_p (x.2.2.1, x.2.2.2.1) ((rd (Ty.zero tVersion) x.1 x.2.1).1)).bind fun y2 => (par_bif (par_ret _) ((par_loop spec_l06Keys_bp2 Fuel (x.1, x.2.1, (rd (Ty.zero tVersion) x.1 x.2.1).1, (0 : Int), x.2.2.1, x.2.2.2.1, x.2.2.2.2, ([] : List ByteArray))).bind fun z3 => (par_ite (c := z3.2.2.2.2.2.2.2.length + [z3.2.2.1].length ≤ VE.maxLen) ((par_loop spec_l06Keys_bp4 Fuel (z3.1, z3.2.1, z3.2.2.1, (0 : Int), z3.2.2.2.2.1, z3.2.2.2.2.2.1, z3.2.2.2.2.2.2.1, (z3.2.2.2.2.2.2.2 ++ [z3.2.2.1]))).bind fun z4 => (par_ret _)) par_none)))) par_none) (par_ret _))

def spec_l06Keys_d (a0 : (List dVersion)) (a1 : dRange) (k : (List ByteArray) → Option Res) : Option Res :=
  loopK spec_l06Keys_b0 Fuel (a0, (0 : Int), a1.1, a1.2, ([] : List ByteArray)) (fun z1 =>
    k z1.2.2.2.2)

theorem spec_l06Keys_h : ∃ g : (List dVersion) → dRange → ((List ByteArray) → Option Res) → Option Res, g = spec_l06Keys_d := ⟨_, rfl⟩
def spec_l06Keys_k : (List dVersion) → dRange → ((List ByteArray) → Option Res) → Option Res := Classical.choose spec_l06Keys_h
theorem spec_l06Keys_e : spec_l06Keys_k = spec_l06Keys_d := Classical.choose_spec spec_l06Keys_h

theorem spec_l06Keys_p (a0 : (List dVersion)) (a1 : dRange) : Par (spec_l06Keys_k a0 a1) := by
  rw [spec_l06Keys_e]
  unfold spec_l06Keys_d
  exact ((par_loop spec_l06Keys_bp0 Fuel (a0, (0 : Int), a1.1, a1.2, ([] : List ByteArray))).bind fun z1 => (par_ret _))

def spec_l06At_b0 (x : ((List dVersion) × ByteArray × Int × Int × Int)) (k : ((List dVersion) × ByteArray × Int × Int × Int) ⊕ ((List dVersion) × ByteArray × Int × Int × Int) → Option Res) : Option Res :=
    bif (decide (x.2.2.2.2 < (x.1.length : Int))) then
      if 0 ≤ x.2.2.2.2 ∧ x.2.2.2.2 < (x.1.length : Int) then
        bif (strEq ((rd (Ty.zero tVersion) x.1 x.2.2.2.2).1) x.2.1) then
          if 0 ≤ x.2.2.2.2 ∧ x.2.2.2.2 < (x.1.length : Int) then
            bif (decide ((rd (Ty.zero tVersion) x.1 x.2.2.2.2).2.2.2 ≤ x.2.2.1)) then
              bif (decide (x.2.2.2.1 < (0 : Int))) then
                k (.inl (x.1, x.2.1, x.2.2.1, x.2.2.2.2, (IntKind.wrap .i64 (x.2.2.2.2 + (1 : Int)))))
              else
                if 0 ≤ x.2.2.2.2 ∧ x.2.2.2.2 < (x.1.length : Int) then
                  if 0 ≤ x.2.2.2.1 ∧ x.2.2.2.1 < (x.1.length : Int) then
                    bif (decide ((rd (Ty.zero tVersion) x.1 x.2.2.2.2).2.2.2 > (rd (Ty.zero tVersion) x.1 x.2.2.2.1).2.2.2)) then
                      k (.inl (x.1, x.2.1, x.2.2.1, x.2.2.2.2, (IntKind.wrap .i64 (x.2.2.2.2 + (1 : Int)))))
                    else
                      k (.inl (x.1, x.2.1, x.2.2.1, x.2.2.2.1, (IntKind.wrap .i64 (x.2.2.2.2 + (1 : Int)))))
                  else none
                else none
            else
              k (.inl (x.1, x.2.1, x.2.2.1, x.2.2.2.1, (IntKind.wrap .i64 (x.2.2.2.2 + (1 : Int)))))
          else none
        else
          k (.inl (x.1, x.2.1, x.2.2.1, x.2.2.2.1, (IntKind.wrap .i64 (x.2.2.2.2 + (1 : Int)))))
      else none
    else
      k (.inr (x.1, x.2.1, x.2.2.1, x.2.2.2.1, x.2.2.2.2))

theorem spec_l06At_bp0 (x : ((List dVersion) × ByteArray × Int × Int × Int)) : Par (spec_l06At_b0 x) := by
  unfold spec_l06At_b0
  exact (par_bif (par_ite (c := 0 ≤ x.2.2.2.2 ∧ x.2.2.2.2 < (x.1.length : Int)) (par_bif (par_ite (c := 0 ≤ x.2.2.2.2 ∧ x.2.2.2.2 < (x.1.length : Int)) (par_bif (par_bif (par_ret _) (par_ite (c := 0 ≤ x.2.2.2.2 ∧ x.2.2.2.2 < (x.1.length : Int)) (par_ite (c := 0 ≤ x.2.2.2.1 ∧ x.2.2.2.1 < (x.1.length : Int)) (par_bif (par_ret _) (par_ret _)) par_none) par_none)) (par_ret _)) par_none) (par_ret _)) par_none) (par_ret _))

def spec_l06At_d (a0 : (List dVersion)) (a1 : ByteArray) (a2 : Int) (k : Int → Option Res) : Option Res :=
  loopK spec_l06At_b0 Fuel (a0, a1, a2, (-1 : Int), (0 : Int)) (fun z1 =>
    k z1.2.2.2.1)

theorem spec_l06At_h : ∃ g : (List dVersion) → ByteArray → Int → (Int → Option Res) → Option Res, g = spec_l06At_d := ⟨_, rfl⟩
def spec_l06At_k : (List dVersion) → ByteArray → Int → (Int → Option Res) → Option Res := Classical.choose spec_l06At_h
theorem spec_l06At_e : spec_l06At_k = spec_l06At_d := Classical.choose_spec spec_l06At_h

theorem spec_l06At_p (a0 : (List dVersion)) (a1 : ByteArray) (a2 : Int) : Par (spec_l06At_k a0 a1 a2) := by
  rw [spec_l06At_e]
  unfold spec_l06At_d
  exact ((par_loop spec_l06At_bp0 Fuel (a0, a1, a2, (-1 : Int), (0 : Int))).bind fun z1 => (par_ret _))

def spec_SeenAt_d (a0 : (List dVersion)) (a1 : ByteArray) (a2 : Int) (k : (ByteArray × Bool) → Option Res) : Option Res :=
  spec_l06At_k a0 a1 a2 (fun y1 =>
    bif (decide (y1 < (0 : Int))) then
      k ((⟨#[]⟩ : ByteArray), false)
    else
      if 0 ≤ y1 ∧ y1 < (a0.length : Int) then
        bif (rd (Ty.zero tVersion) a0 y1).2.2.1 then
          k ((⟨#[]⟩ : ByteArray), false)
        else
          if 0 ≤ y1 ∧ y1 < (a0.length : Int) then
            k ((rd (Ty.zero tVersion) a0 y1).2.1, true)
          else none
      else none)

theorem spec_SeenAt_h : ∃ g : (List dVersion) → ByteArray → Int → ((ByteArray × Bool) → Option Res) → Option Res, g = spec_SeenAt_d := ⟨_, rfl⟩
def spec_SeenAt_k : (List dVersion) → ByteArray → Int → ((ByteArray × Bool) → Option Res) → Option Res := Classical.choose spec_SeenAt_h
theorem spec_SeenAt_e : spec_SeenAt_k = spec_SeenAt_d := Classical.choose_spec spec_SeenAt_h

theorem spec_SeenAt_p (a0 : (List dVersion)) (a1 : ByteArray) (a2 : Int) : Par (spec_SeenAt_k a0 a1 a2) := by
  rw [spec_SeenAt_e]
  unfold spec_SeenAt_d
  exact ((spec_l06At_p a0 a1 a2).bind fun y1 => (par_bif (par_ret _) (par_ite (c := 0 ≤ y1 ∧ y1 < (a0.length : Int)) (par_bif (par_ret _) (par_ite (c := 0 ≤ y1 ∧ y1 < (a0.length : Int)) (par_ret _) par_none)) par_none)))

def spec_ScanAt_b0 (x : ((List dVersion) × Int × Int × (List dRange) × (List ByteArray))) (k : ((List dVersion) × Int × Int × (List dRange) × (List ByteArray)) ⊕ ((List dVersion) × Int × Int × (List dRange) × (List ByteArray)) → Option Res) : Option Res :=
    bif (decide (x.2.2.1 < (x.2.2.2.2.length : Int))) then
      if 0 ≤ x.2.2.1 ∧ x.2.2.1 < (x.2.2.2.2.length : Int) then
        spec_SeenAt_k x.1 (x.2.2.2.2.getD x.2.2.1.toNat (Ty.zero .str)) x.2.1 (fun y3 =>
          bif y3.2 then
            if 0 ≤ x.2.2.1 ∧ x.2.2.1 < (x.2.2.2.2.length : Int) then
              if x.2.2.2.1.length + [((x.2.2.2.2.getD x.2.2.1.toNat (Ty.zero .str)), y3.1)].length ≤ VE.maxLen then
                k (.inl (x.1, x.2.1, (IntKind.wrap .i64 (x.2.2.1 + (1 : Int))), (x.2.2.2.1 ++ [((x.2.2.2.2.getD x.2.2.1.toNat (Ty.zero .str)), y3.1)]), x.2.2.2.2))
              else none
            else none
          else
            k (.inl (x.1, x.2.1, (IntKind.wrap .i64 (x.2.2.1 + (1 : Int))), x.2.2.2.1, x.2.2.2.2)))
      else none
    else
      k (.inr (x.1, x.2.1, x.2.2.1, x.2.2.2.1, x.2.2.2.2))

theorem spec_ScanAt_bp0 (x : ((List dVersion) × Int × Int × (List dRange) × (List ByteArray))) : Par (spec_ScanAt_b0 x) := by
  unfold spec_ScanAt_b0
  exact (par_bif (par_ite (c := 0 ≤ x.2.2.1 ∧ x.2.2.1 < (x.2.2.2.2.length : Int)) ((spec_SeenAt_p x.1 (x.2.2.2.2.getD x.2.2.1.toNat (Ty.zero .str)) x.2.1).bind fun y3 => (par_bif (par_ite (c := 0 ≤ x.2.2.1 ∧ x.2.2.1 < (x.2.2.2.2.length : Int)) (par_ite (c := x.2.2.2.1.length + [((x.2.2.2.2.getD x.2.2.1.toNat (Ty.zero .str)), y3.1)].length ≤ VE.maxLen) (par_ret _) par_none) par_none) (par_ret _))) par_none) (par_ret _))

def spec_ScanAt_d (a0 : (List dVersion)) (a1 : dRange) (a2 : Int) (k : (List dRange) → Option Res) : Option Res :=
  spec_l06Keys_k a0 a1 (fun y1 =>
    loopK spec_ScanAt_b0 Fuel (a0, a2, (0 : Int), ([] : List dRange), y1) (fun z2 =>
      k z2.2.2.2.1))

theorem spec_ScanAt_h : ∃ g : (List dVersion) → dRange → Int → ((List dRange) → Option Res) → Option Res, g = spec_ScanAt_d := ⟨_, rfl⟩
def spec_ScanAt_k : (List dVersion) → dRange → Int → ((List dRange) → Option Res) → Option Res := Classical.choose spec_ScanAt_h
theorem spec_ScanAt_e : spec_ScanAt_k = spec_ScanAt_d := Classical.choose_spec spec_ScanAt_h

theorem spec_ScanAt_p (a0 : (List dVersion)) (a1 : dRange) (a2 : Int) : Par (spec_ScanAt_k a0 a1 a2) := by
  rw [spec_ScanAt_e]
  unfold spec_ScanAt_d
  exact ((spec_l06Keys_p a0 a1).bind fun y1 => ((par_loop spec_ScanAt_bp0 Fuel (a0, a2, (0 : Int), ([] : List dRange), y1)).bind fun z2 => (par_ret _)))

def spec_l06Pairs_b0 (x : ((List dRange) × (List dRange) × Bool × Int)) (k : ((List dRange) × (List dRange) × Bool × Int) ⊕ (((List dRange) × (List dRange) × Bool × Int) ⊕ ((List dRange) × (List dRange) × Bool × Int)) → Option Res) : Option Res :=
    bif (decide (x.2.2.2 < (x.1.length : Int))) then
      if 0 ≤ x.2.2.2 ∧ x.2.2.2 < (x.1.length : Int) then
        if 0 ≤ x.2.2.2 ∧ x.2.2.2 < (x.2.1.length : Int) then
          bif (!(Ty.eqB tRange (rd (Ty.zero tRange) x.1 x.2.2.2) (rd (Ty.zero tRange) x.2.1 x.2.2.2))) then
            k (.inr (.inl (x.1, x.2.1, false, x.2.2.2)))
          else
            k (.inl (x.1, x.2.1, x.2.2.1, (IntKind.wrap .i64 (x.2.2.2 + (1 : Int)))))
        else none
      else none
    else
      k (.inr (.inr (x.1, x.2.1, x.2.2.1, x.2.2.2)))

theorem spec_l06Pairs_bp0 (x : ((List dRange) × (List dRange) × Bool × Int)) : Par (spec_l06Pairs_b0 x) := by
  unfold spec_l06Pairs_b0
  exact (par_bif (par_ite (c := 0 ≤ x.2.2.2 ∧ x.2.2.2 < (x.1.length : Int)) (par_ite (c := 0 ≤ x.2.2.2 ∧ x.2.2.2 < (x.2.1.length : Int)) (par_bif (par_ret _) (par_ret _)) par_none) par_none) (par_ret _))

def spec_l06Pairs_d (a0 : (List dRange)) (a1 : (List dRange)) (k : Bool → Option Res) : Option Res :=
  bif ((a0.length : Int) != (a1.length : Int)) then
    k false
  else
    loopK spec_l06Pairs_b0 Fuel (a0, a1, false, (0 : Int)) (Sum.elim (fun z1 =>
      k z1.2.2.1) (fun _ =>
      k true))

theorem spec_l06Pairs_h : ∃ g : (List dRange) → (List dRange) → (Bool → Option Res) → Option Res, g = spec_l06Pairs_d := ⟨_, rfl⟩
def spec_l06Pairs_k : (List dRange) → (List dRange) → (Bool → Option Res) → Option Res := Classical.choose spec_l06Pairs_h
theorem spec_l06Pairs_e : spec_l06Pairs_k = spec_l06Pairs_d := Classical.choose_spec spec_l06Pairs_h

theorem spec_l06Pairs_p (a0 : (List dRange)) (a1 : (List dRange)) : Par (spec_l06Pairs_k a0 a1) := by
  rw [spec_l06Pairs_e]
  unfold spec_l06Pairs_d
  exact (par_bif (par_ret _) ((par_loop spec_l06Pairs_bp0 Fuel (a0, a1, false, (0 : Int))).bind2 (fun z1 => (par_ret _)) (fun z2 => (par_ret _))))

def spec_SameFrom_j5000011 (x : ((List dVersion) × (List dVersion) × Int × Bool × Int × Int × ByteArray × ByteArray)) (k : (((List dVersion) × (List dVersion) × Int × Bool × Int × Int × ByteArray × ByteArray) ⊕ ((List dVersion) × (List dVersion) × Int × Bool × Int × Int × ByteArray × ByteArray)) → Option Res) : Option Res :=
    bif (decide (x.2.2.2.2.2.1 > x.2.2.1)) then
      spec_ScanAt_k x.1 x.2.2.2.2.2.2 x.2.2.2.2.2.1 (fun y11 =>
        spec_ScanAt_k x.2.1 x.2.2.2.2.2.2 x.2.2.2.2.2.1 (fun y12 =>
          spec_l06Pairs_k y11 y12 (fun y13 =>
            bif (!y13) then
              k (.inl (x.1, x.2.1, x.2.2.1, false, x.2.2.2.2.1, x.2.2.2.2.2.1, x.2.2.2.2.2.2.1, x.2.2.2.2.2.2.2))
            else
              k (.inr (x.1, x.2.1, x.2.2.1, x.2.2.2.1, x.2.2.2.2.1, x.2.2.2.2.2.1, x.2.2.2.2.2.2.1, x.2.2.2.2.2.2.2)))))
    else
      k (.inr (x.1, x.2.1, x.2.2.1, x.2.2.2.1, x.2.2.2.2.1, x.2.2.2.2.2.1, x.2.2.2.2.2.2.1, x.2.2.2.2.2.2.2))

theorem spec_SameFrom_jp5000011 (x : ((List dVersion) × (List dVersion) × Int × Bool × Int × Int × ByteArray × ByteArray)) : Par (spec_SameFrom_j5000011 x) := by
  unfold spec_SameFrom_j5000011
  exact (par_bif ((spec_ScanAt_p x.1 x.2.2.2.2.2.2 x.2.2.2.2.2.1).bind fun y11 => ((spec_ScanAt_p x.2.1 x.2.2.2.2.2.2 x.2.2.2.2.2.1).bind fun y12 => ((spec_l06Pairs_p y11 y12).bind fun y13 => (par_bif (par_ret _) (par_ret _))))) (par_ret _))

def spec_SameFrom_b0 (x : ((List dVersion) × (List dVersion) × Int × Bool × Int × ByteArray × ByteArray)) (k : ((List dVersion) × (List dVersion) × Int × Bool × Int × ByteArray × ByteArray) ⊕ (((List dVersion) × (List dVersion) × Int × Bool × Int × ByteArray × ByteArray) ⊕ ((List dVersion) × (List dVersion) × Int × Bool × Int × ByteArray × ByteArray)) → Option Res) : Option Res :=
    bif (decide (x.2.2.2.2.1 < (IntKind.wrap .i64 ((x.1.length : Int) + (x.2.1.length : Int))))) then
      bif (decide (x.2.2.2.2.1 < (x.1.length : Int))) then
        if 0 ≤ x.2.2.2.2.1 ∧ x.2.2.2.2.1 < (x.1.length : Int) then
          spec_SameFrom_j5000011 (x.1, x.2.1, x.2.2.1, x.2.2.2.1, x.2.2.2.2.1, (rd (Ty.zero tVersion) x.1 x.2.2.2.2.1).2.2.2, x.2.2.2.2.2.1, x.2.2.2.2.2.2) (Sum.elim (fun z7 =>
            k (.inr (.inr (z7.1, z7.2.1, z7.2.2.1, z7.2.2.2.1, z7.2.2.2.2.1, z7.2.2.2.2.2.2.1, z7.2.2.2.2.2.2.2)))) (fun z8 =>
            k (.inl (z8.1, z8.2.1, z8.2.2.1, z8.2.2.2.1, (IntKind.wrap .i64 (z8.2.2.2.2.1 + (1 : Int))), z8.2.2.2.2.2.2.1, z8.2.2.2.2.2.2.2))))
        else none
      else
        if 0 ≤ (IntKind.wrap .i64 (x.2.2.2.2.1 - (x.1.length : Int))) ∧ (IntKind.wrap .i64 (x.2.2.2.2.1 - (x.1.length : Int))) < (x.2.1.length : Int) then
          spec_SameFrom_j5000011 (x.1, x.2.1, x.2.2.1, x.2.2.2.1, x.2.2.2.2.1, (rd (Ty.zero tVersion) x.2.1 (IntKind.wrap .i64 (x.2.2.2.2.1 - (x.1.length : Int)))).2.2.2, x.2.2.2.2.2.1, x.2.2.2.2.2.2) (Sum.elim (fun z9 =>
            k (.inr (.inr (z9.1, z9.2.1, z9.2.2.1, z9.2.2.2.1, z9.2.2.2.2.1, z9.2.2.2.2.2.2.1, z9.2.2.2.2.2.2.2)))) (fun z10 =>
            k (.inl (z10.1, z10.2.1, z10.2.2.1, z10.2.2.2.1, (IntKind.wrap .i64 (z10.2.2.2.2.1 + (1 : Int))), z10.2.2.2.2.2.2.1, z10.2.2.2.2.2.2.2))))
        else none
    else
      k (.inr (.inl (x.1, x.2.1, x.2.2.1, x.2.2.2.1, x.2.2.2.2.1, x.2.2.2.2.2.1, x.2.2.2.2.2.2)))

theorem spec_SameFrom_bp0 (x : ((List dVersion) × (List dVersion) × Int × Bool × Int × ByteArray × ByteArray)) : Par (spec_SameFrom_b0 x) := by
  unfold spec_SameFrom_b0
  exact (par_bif (par_bif (par_ite (c := 0 ≤ x.2.2.2.2.1 ∧ x.2.2.2.2.1 < (x.1.length : Int)) ((spec_SameFrom_jp5000011 (x.1, x.2.1, x.2.2.1, x.2.2.2.1, x.2.2.2.2.1, (rd (Ty.zero tVersion) x.1 x.2.2.2.2.1).2.2.2, x.2.2.2.2.2.1, x.2.2.2.2.2.2)).bind2 (fun z7 => (par_ret _)) (fun z8 => (par_ret _))) par_none) (par_ite (c := 0 ≤ (IntKind.wrap .i64 (x.2.2.2.2.1 - (x.1.length : Int))) ∧ (IntKind.wrap .i64 (x.2.2.2.2.1 - (x.1.length : Int))) < (x.2.1.length : Int)) ((spec_SameFrom_jp5000011 (x.1, x.2.1, x.2.2.1, x.2.2.2.1, x.2.2.2.2.1, (rd (Ty.zero tVersion) x.2.1 (IntKind.wrap .i64 (x.2.2.2.2.1 - (x.1.length : Int)))).2.2.2, x.2.2.2.2.2.1, x.2.2.2.2.2.2)).bind2 (fun z9 => (par_ret _)) (fun z10 => (par_ret _))) par_none)) (par_ret _))

def spec_SameFrom_d (a0 : (List dVersion)) (a1 : (List dVersion)) (a2 : Int) (k : Bool → Option Res) : Option Res :=
  spec_l06All_k  (fun y1 =>
    spec_ScanAt_k a0 y1 a2 (fun y2 =>
      spec_ScanAt_k a1 y1 a2 (fun y3 =>
        spec_l06Pairs_k y2 y3 (fun y4 =>
          bif (!y4) then
            k false
          else
            loopK spec_SameFrom_b0 Fuel (a0, a1, a2, false, (0 : Int), y1.1, y1.2) (Sum.elim (fun _ =>
              k true) (fun z6 =>
              k z6.2.2.2.1))))))

theorem spec_SameFrom_h : ∃ g : (List dVersion) → (List dVersion) → Int → (Bool → Option Res) → Option Res, g = spec_SameFrom_d := ⟨_, rfl⟩
def spec_SameFrom_k : (List dVersion) → (List dVersion) → Int → (Bool → Option Res) → Option Res := Classical.choose spec_SameFrom_h
theorem spec_SameFrom_e : spec_SameFrom_k = spec_SameFrom_d := Classical.choose_spec spec_SameFrom_h

theorem spec_SameFrom_p (a0 : (List dVersion)) (a1 : (List dVersion)) (a2 : Int) : Par (spec_SameFrom_k a0 a1 a2) := by
  rw [spec_SameFrom_e]
  unfold spec_SameFrom_d
  exact ((spec_l06All_p ).bind fun y1 => ((spec_ScanAt_p a0 y1 a2).bind fun y2 => ((spec_ScanAt_p a1 y1 a2).bind fun y3 => ((spec_l06Pairs_p y2 y3).bind fun y4 => (par_bif (par_ret _) ((par_loop spec_SameFrom_bp0 Fuel (a0, a1, a2, false, (0 : Int), y1.1, y1.2)).bind2 (fun z5 => (par_ret _)) (fun z6 => (par_ret _))))))))

def slices_Grow_Version_vn_d (a0 : Int) (k : (List dVersion) → Option Res) : Option Res :=
  bif (decide (a0 < (0 : Int))) then
    none
  else
    bif (decide ((IntKind.wrap .i64 (a0 - (IntKind.wrap .i64 ((0 : Int) - (0 : Int))))) > (0 : Int))) then
      if 0 ≤ (0 : Int) ∧ (0 : Int) ≤ (0 : Int) ∧ (0 : Int) ≤ 0 then
        if 0 ≤ (IntKind.wrap .i64 (a0 - (IntKind.wrap .i64 ((0 : Int) - (0 : Int))))) ∧ (IntKind.wrap .i64 (a0 - (IntKind.wrap .i64 ((0 : Int) - (0 : Int))))) ≤ (VE.maxLen : Int) then
          if 0 ≤ (0 : Int) ∧ (0 : Int) ≤ ((List.replicate (IntKind.wrap .i64 (a0 - (IntKind.wrap .i64 ((0 : Int) - (0 : Int))))).toNat (Ty.zero tVersion)).length : Int) then
            k ((List.replicate (IntKind.wrap .i64 (a0 - (IntKind.wrap .i64 ((0 : Int) - (0 : Int))))).toNat (Ty.zero tVersion)).take (0 : Int).toNat)
          else none
        else none
      else none
    else
      k ([] : List dVersion)

theorem slices_Grow_Version_vn_h : ∃ g : Int → ((List dVersion) → Option Res) → Option Res, g = slices_Grow_Version_vn_d := ⟨_, rfl⟩
def slices_Grow_Version_vn_k : Int → ((List dVersion) → Option Res) → Option Res := Classical.choose slices_Grow_Version_vn_h
theorem slices_Grow_Version_vn_e : slices_Grow_Version_vn_k = slices_Grow_Version_vn_d := Classical.choose_spec slices_Grow_Version_vn_h

theorem slices_Grow_Version_vn_p (a0 : Int) : Par (slices_Grow_Version_vn_k a0) := by
  rw [slices_Grow_Version_vn_e]
  unfold slices_Grow_Version_vn_d
  exact (par_bif par_none (par_bif (par_ite (c := 0 ≤ (0 : Int) ∧ (0 : Int) ≤ (0 : Int) ∧ (0 : Int) ≤ 0) (par_ite (c := 0 ≤ (IntKind.wrap .i64 (a0 - (IntKind.wrap .i64 ((0 : Int) - (0 : Int))))) ∧ (IntKind.wrap .i64 (a0 - (IntKind.wrap .i64 ((0 : Int) - (0 : Int))))) ≤ (VE.maxLen : Int)) (par_ite (c := 0 ≤ (0 : Int) ∧ (0 : Int) ≤ ((List.replicate (IntKind.wrap .i64 (a0 - (IntKind.wrap .i64 ((0 : Int) - (0 : Int))))).toNat (Ty.zero tVersion)).length : Int)) (par_ret _) par_none) par_none) par_none) (par_ret _)))

def slices_Concat_Version_b0 (x : ((List (List dVersion)) × Int × (List (List dVersion)) × Int × Int)) (k : ((List (List dVersion)) × Int × (List (List dVersion)) × Int × Int) ⊕ ((List (List dVersion)) × Int × (List (List dVersion)) × Int × Int) → Option Res) : Option Res :=
    bif (decide (x.2.2.2.2 < x.2.2.2.1)) then
      if 0 ≤ x.2.2.2.2 ∧ x.2.2.2.2 < (x.2.2.1.length : Int) then
        bif (decide ((IntKind.wrap .i64 (x.2.1 + ((rd (Ty.zero (.slice tVersion)) x.2.2.1 x.2.2.2.2).length : Int))) < (0 : Int))) then
          none
        else
          k (.inl (x.1, (IntKind.wrap .i64 (x.2.1 + ((rd (Ty.zero (.slice tVersion)) x.2.2.1 x.2.2.2.2).length : Int))), x.2.2.1, x.2.2.2.1, (IntKind.wrap .i64 (x.2.2.2.2 + (1 : Int)))))
      else none
    else
      k (.inr (x.1, x.2.1, x.2.2.1, x.2.2.2.1, x.2.2.2.2))

theorem slices_Concat_Version_bp0 (x : ((List (List dVersion)) × Int × (List (List dVersion)) × Int × Int)) : Par (slices_Concat_Version_b0 x) := by
  unfold slices_Concat_Version_b0
  exact (par_bif (par_ite (c := 0 ≤ x.2.2.2.2 ∧ x.2.2.2.2 < (x.2.2.1.length : Int)) (par_bif par_none (par_ret _)) par_none) (par_ret _))

def slices_Concat_Version_b2 (x : ((List (List dVersion)) × Int × Int × (List dVersion))) (k : ((List (List dVersion)) × Int × Int × (List dVersion)) ⊕ ((List (List dVersion)) × Int × Int × (List dVersion)) → Option Res) : Option Res :=
    bif (decide (x.2.2.1 < x.2.1)) then
      if 0 ≤ x.2.2.1 ∧ x.2.2.1 < (x.1.length : Int) then
        if x.2.2.2.length + (rd (Ty.zero (.slice tVersion)) x.1 x.2.2.1).length ≤ VE.maxLen then
          k (.inl (x.1, x.2.1, (IntKind.wrap .i64 (x.2.2.1 + (1 : Int))), (x.2.2.2 ++ (rd (Ty.zero (.slice tVersion)) x.1 x.2.2.1))))
        else none
      else none
    else
      k (.inr (x.1, x.2.1, x.2.2.1, x.2.2.2))

theorem slices_Concat_Version_bp2 (x : ((List (List dVersion)) × Int × Int × (List dVersion))) : Par (slices_Concat_Version_b2 x) := by
  unfold slices_Concat_Version_b2
  exact (par_bif (par_ite (c := 0 ≤ x.2.2.1 ∧ x.2.2.1 < (x.1.length : Int)) (par_ite (c := x.2.2.2.length + (rd (Ty.zero (.slice tVersion)) x.1 x.2.2.1).length ≤ VE.maxLen) (par_ret _) par_none) par_none) (par_ret _))

def slices_Concat_Version_d (a0 : (List (List dVersion))) (k : (List dVersion) → Option Res) : Option Res :=
  loopK slices_Concat_Version_b0 Fuel (a0, (0 : Int), a0, (a0.length : Int), (0 : Int)) (fun z1 =>
    slices_Grow_Version_vn_k z1.2.1 (fun y2 =>
      loopK slices_Concat_Version_b2 Fuel (z1.1, (z1.1.length : Int), (0 : Int), y2) (fun z3 =>
        k z3.2.2.2)))

theorem slices_Concat_Version_h : ∃ g : (List (List dVersion)) → ((List dVersion) → Option Res) → Option Res, g = slices_Concat_Version_d := ⟨_, rfl⟩
def slices_Concat_Version_k : (List (List dVersion)) → ((List dVersion) → Option Res) → Option Res := Classical.choose slices_Concat_Version_h
theorem slices_Concat_Version_e : slices_Concat_Version_k = slices_Concat_Version_d := Classical.choose_spec slices_Concat_Version_h

theorem slices_Concat_Version_p (a0 : (List (List dVersion))) : Par (slices_Concat_Version_k a0) := by
  rw [slices_Concat_Version_e]
  unfold slices_Concat_Version_d
  exact ((par_loop slices_Concat_Version_bp0 Fuel (a0, (0 : Int), a0, (a0.length : Int), (0 : Int))).bind fun z1 => ((slices_Grow_Version_vn_p z1.2.1).bind fun y2 => ((par_loop slices_Concat_Version_bp2 Fuel (z1.1, (z1.1.length : Int), (0 : Int), y2)).bind fun z3 => (par_ret _))))

def impl_allKeys_d  (k : (ByteArray × ByteArray) → Option Res) : Option Res :=
  k ((⟨#[97]⟩ : ByteArray), (⟨#[122, 122, 122]⟩ : ByteArray))

theorem impl_allKeys_h : ∃ g : ((ByteArray × ByteArray) → Option Res) → Option Res, g = impl_allKeys_d := ⟨_, rfl⟩
def impl_allKeys_k : ((ByteArray × ByteArray) → Option Res) → Option Res := Classical.choose impl_allKeys_h
theorem impl_allKeys_e : impl_allKeys_k = impl_allKeys_d := Classical.choose_spec impl_allKeys_h

theorem impl_allKeys_p  : Par (impl_allKeys_k ) := by
  rw [impl_allKeys_e]
  unfold impl_allKeys_d
  exact (par_ret _)

def slices_Sort_string_vo_d (a0 : (List ByteArray)) (k : (List ByteArray) → Option Res) : Option Res :=
  if a0.length ≤ 1000000000 then
    k (sortL a0)
  else none

theorem slices_Sort_string_vo_h : ∃ g : (List ByteArray) → ((List ByteArray) → Option Res) → Option Res, g = slices_Sort_string_vo_d := ⟨_, rfl⟩
def slices_Sort_string_vo_k : (List ByteArray) → ((List ByteArray) → Option Res) → Option Res := Classical.choose slices_Sort_string_vo_h
theorem slices_Sort_string_vo_e : slices_Sort_string_vo_k = slices_Sort_string_vo_d := Classical.choose_spec slices_Sort_string_vo_h

theorem slices_Sort_string_vo_p (a0 : (List ByteArray)) : Par (slices_Sort_string_vo_k a0) := by
  rw [slices_Sort_string_vo_e]
  unfold slices_Sort_string_vo_d
  exact (par_ite (c := a0.length ≤ 1000000000) (par_ret _) par_none)

def slices_Compact_string_vo_b2 (x : (Int × Nat × Int × (List ByteArray))) (k : (Int × Nat × Int × (List ByteArray)) ⊕ (Int × Nat × Int × (List ByteArray)) → Option Res) : Option Res :=
    bif (decide (x.2.2.1 < ((x.2.2.2.length : Int) - ((x.2.1 : Nat) : Int)))) then
      if 0 ≤ x.2.2.1 ∧ x.2.2.1 < (x.2.2.2.length : Int) - ((x.2.1 : Nat) : Int) then
        if 0 ≤ (IntKind.wrap .i64 (x.2.2.1 - (1 : Int))) ∧ (IntKind.wrap .i64 (x.2.2.1 - (1 : Int))) < (x.2.2.2.length : Int) - ((x.2.1 : Nat) : Int) then
          bif (!(strEq (x.2.2.2.getD (x.2.1 + x.2.2.1.toNat) (Ty.zero .str)) (x.2.2.2.getD (x.2.1 + (IntKind.wrap .i64 (x.2.2.1 - (1 : Int))).toNat) (Ty.zero .str)))) then
            if 0 ≤ x.2.2.1 ∧ x.2.2.1 < (x.2.2.2.length : Int) - ((x.2.1 : Nat) : Int) then
              if 0 ≤ x.1 ∧ x.1 < (x.2.2.2.length : Int) then
                k (.inl ((IntKind.wrap .i64 (x.1 + (1 : Int))), x.2.1, (IntKind.wrap .i64 (x.2.2.1 + (1 : Int))), (x.2.2.2.set x.1.toNat (x.2.2.2.getD (x.2.1 + x.2.2.1.toNat) (Ty.zero .str)))))
              else none
            else none
          else
            k (.inl (x.1, x.2.1, (IntKind.wrap .i64 (x.2.2.1 + (1 : Int))), x.2.2.2))
        else none
      else none
    else
      k (.inr (x.1, x.2.1, x.2.2.1, x.2.2.2))

theorem slices_Compact_string_vo_bp2 (x : (Int × Nat × Int × (List ByteArray))) : Par (slices_Compact_string_vo_b2 x) := by
  unfold slices_Compact_string_vo_b2
  exact (par_bif (par_ite (c := 0 ≤ x.2.2.1 ∧ x.2.2.1 < (x.2.2.2.length : Int) - ((x.2.1 : Nat) : Int)) (par_ite (c := 0 ≤ (IntKind.wrap .i64 (x.2.2.1 - (1 : Int))) ∧ (IntKind.wrap .i64 (x.2.2.1 - (1 : Int))) < (x.2.2.2.length : Int) - ((x.2.1 : Nat) : Int)) (par_bif (par_ite (c := 0 ≤ x.2.2.1 ∧ x.2.2.1 < (x.2.2.2.length : Int) - ((x.2.1 : Nat) : Int)) (par_ite (c := 0 ≤ x.1 ∧ x.1 < (x.2.2.2.length : Int)) (par_ret _) par_none) par_none) (par_ret _)) par_none) par_none) (par_ret _))

def slices_Compact_string_vo_b0 (x : (Int × (List ByteArray) × (List ByteArray))) (k : (Int × (List ByteArray) × (List ByteArray)) ⊕ ((Int × (List ByteArray) × (List ByteArray)) ⊕ (Int × (List ByteArray))) → Option Res) : Option Res :=
    bif (decide (x.1 < (x.2.1.length : Int))) then
      if 0 ≤ x.1 ∧ x.1 < (x.2.1.length : Int) then
        if 0 ≤ (IntKind.wrap .i64 (x.1 - (1 : Int))) ∧ (IntKind.wrap .i64 (x.1 - (1 : Int))) < (x.2.1.length : Int) then
          bif (strEq (x.2.1.getD x.1.toNat (Ty.zero .str)) (x.2.1.getD (IntKind.wrap .i64 (x.1 - (1 : Int))).toNat (Ty.zero .str))) then
            if 0 ≤ x.1 ∧ x.1 ≤ (x.2.1.length : Int) then
              loopK slices_Compact_string_vo_b2 Fuel (x.1, x.1.toNat, (1 : Int), x.2.1) (fun z3 =>
                if 0 ≤ z3.1 ∧ z3.1 ≤ (z3.2.2.2.length : Int) then
                  if 0 ≤ z3.1 ∧ z3.1 ≤ ((z3.2.2.2.take z3.1.toNat ++ List.replicate (z3.2.2.2.length - z3.1.toNat) (Ty.zero .str)).length : Int) then
                    k (.inr (.inr (z3.1, ((z3.2.2.2.take z3.1.toNat ++ List.replicate (z3.2.2.2.length - z3.1.toNat) (Ty.zero .str)).take z3.1.toNat))))
                  else none
                else none)
            else none
          else
            k (.inl ((IntKind.wrap .i64 (x.1 + (1 : Int))), x.2.1, x.2.2))
        else none
      else none
    else
      k (.inr (.inl (x.1, x.2.1, x.2.2)))

theorem slices_Compact_string_vo_bp0 (x : (Int × (List ByteArray) × (List ByteArray))) : Par (slices_Compact_string_vo_b0 x) := by
  unfold slices_Compact_string_vo_b0
  exact (par_bif (par_ite (c := 0 ≤ x.1 ∧ x.1 < (x.2.1.length : Int)) (par_ite (c := 0 ≤ (IntKind.wrap .i64 (x.1 - (1 : Int))) ∧ (IntKind.wrap .i64 (x.1 - (1 : Int))) < (x.2.1.length : Int)) (par_bif (par_ite (c := 0 ≤ x.1 ∧ x.1 ≤ (x.2.1.length : Int)) ((par_loop slices_Compact_string_vo_bp2 Fuel (x.1, x.1.toNat, (1 : Int), x.2.1)).bind fun z3 => (par_ite (c := 0 ≤ z3.1 ∧ z3.1 ≤ (z3.2.2.2.length : Int)) (par_ite (c := 0 ≤ z3.1 ∧ z3.1 ≤ ((z3.2.2.2.take z3.1.toNat ++ List.replicate (z3.2.2.2.length - z3.1.toNat) (Ty.zero .str)).length : Int)) (par_ret _) par_none) par_none)) par_none) (par_ret _)) par_none) par_none) (par_ret _))

def slices_Compact_string_vo_d (a0 : (List ByteArray)) (k : ((List ByteArray) ⊕ (List ByteArray)) → Option Res) : Option Res :=
  bif (decide ((a0.length : Int) < (2 : Int))) then
    k (.inl a0)
  else
    loopK slices_Compact_string_vo_b0 Fuel ((1 : Int), a0, ([] : List ByteArray)) (Sum.elim (fun z1 =>
      k (.inl z1.2.1)) (fun z2 =>
      k (.inr z2.2)))

theorem slices_Compact_string_vo_h : ∃ g : (List ByteArray) → (((List ByteArray) ⊕ (List ByteArray)) → Option Res) → Option Res, g = slices_Compact_string_vo_d := ⟨_, rfl⟩
def slices_Compact_string_vo_k : (List ByteArray) → (((List ByteArray) ⊕ (List ByteArray)) → Option Res) → Option Res := Classical.choose slices_Compact_string_vo_h
theorem slices_Compact_string_vo_e : slices_Compact_string_vo_k = slices_Compact_string_vo_d := Classical.choose_spec slices_Compact_string_vo_h

theorem slices_Compact_string_vo_p (a0 : (List ByteArray)) : Par (slices_Compact_string_vo_k a0) := by
  rw [slices_Compact_string_vo_e]
  unfold slices_Compact_string_vo_d
  exact (par_bif (par_ret _) ((par_loop slices_Compact_string_vo_bp0 Fuel ((1 : Int), a0, ([] : List ByteArray))).bind2 (fun z1 => (par_ret _)) (fun z2 => (par_ret _))))

def impl_keysOf_b0 (x : ((List dVersion) × Int × Int × (List ByteArray))) (k : ((List dVersion) × Int × Int × (List ByteArray)) ⊕ ((List dVersion) × Int × Int × (List ByteArray)) → Option Res) : Option Res :=
    bif (decide (x.2.2.1 < x.2.1)) then
      if 0 ≤ x.2.2.1 ∧ x.2.2.1 < (x.1.length : Int) then
        if x.2.2.2.length + [(rd (Ty.zero tVersion) x.1 x.2.2.1).1].length ≤ VE.maxLen then
          k (.inl (x.1, x.2.1, (IntKind.wrap .i64 (x.2.2.1 + (1 : Int))), (x.2.2.2 ++ [(rd (Ty.zero tVersion) x.1 x.2.2.1).1])))
        else none
      else none
    else
      k (.inr (x.1, x.2.1, x.2.2.1, x.2.2.2))

theorem impl_keysOf_bp0 (x : ((List dVersion) × Int × Int × (List ByteArray))) : Par (impl_keysOf_b0 x) := by
  unfold impl_keysOf_b0
  exact (par_bif (par_ite (c := 0 ≤ x.2.2.1 ∧ x.2.2.1 < (x.1.length : Int)) (par_ite (c := x.2.2.2.length + [(rd (Ty.zero tVersion) x.1 x.2.2.1).1].length ≤ VE.maxLen) (par_ret _) par_none) par_none) (par_ret _))

def impl_keysOf_d (a0 : (List dVersion)) (k : (List ByteArray) → Option Res) : Option Res :=
  loopK impl_keysOf_b0 Fuel (a0, (a0.length : Int), (0 : Int), ([] : List ByteArray)) (fun z1 =>
    slices_Sort_string_vo_k z1.2.2.2 (fun y2 =>
      slices_Compact_string_vo_k y2 (Sum.elim (fun y3 =>
        k y3) (fun y4 =>
        k y4))))

theorem impl_keysOf_h : ∃ g : (List dVersion) → ((List ByteArray) → Option Res) → Option Res, g = impl_keysOf_d := ⟨_, rfl⟩
def impl_keysOf_k : (List dVersion) → ((List ByteArray) → Option Res) → Option Res := Classical.choose impl_keysOf_h
theorem impl_keysOf_e : impl_keysOf_k = impl_keysOf_d := Classical.choose_spec impl_keysOf_h

theorem impl_keysOf_p (a0 : (List dVersion)) : Par (impl_keysOf_k a0) := by
  rw [impl_keysOf_e]
  unfold impl_keysOf_d
  exact ((par_loop impl_keysOf_bp0 Fuel (a0, (a0.length : Int), (0 : Int), ([] : List ByteArray))).bind fun z1 => ((slices_Sort_string_vo_p z1.2.2.2).bind fun y2 => ((slices_Compact_string_vo_p y2).bind2 (fun y3 => (par_ret _)) (fun y4 => (par_ret _)))))

def impl_lastAt_b0 (x : ((List dVersion) × ByteArray × Int × Int × (List dVersion) × Int × Int)) (k : ((List dVersion) × ByteArray × Int × Int × (List dVersion) × Int × Int) ⊕ ((List dVersion) × ByteArray × Int × Int × (List dVersion) × Int × Int) → Option Res) : Option Res :=
    bif (decide (x.2.2.2.2.2.2 < x.2.2.2.2.2.1)) then
      if 0 ≤ x.2.2.2.2.2.2 ∧ x.2.2.2.2.2.2 < (x.2.2.2.2.1.length : Int) then
        bif (strEq ((rd (Ty.zero tVersion) x.2.2.2.2.1 x.2.2.2.2.2.2).1) x.2.1) then
          bif (decide ((rd (Ty.zero tVersion) x.2.2.2.2.1 x.2.2.2.2.2.2).2.2.2 ≤ x.2.2.1)) then
            bif (decide (x.2.2.2.1 < (0 : Int))) then
              k (.inl (x.1, x.2.1, x.2.2.1, x.2.2.2.2.2.2, x.2.2.2.2.1, x.2.2.2.2.2.1, (IntKind.wrap .i64 (x.2.2.2.2.2.2 + (1 : Int)))))
            else
              if 0 ≤ x.2.2.2.1 ∧ x.2.2.2.1 < (x.1.length : Int) then
                bif (decide ((rd (Ty.zero tVersion) x.2.2.2.2.1 x.2.2.2.2.2.2).2.2.2 > (rd (Ty.zero tVersion) x.1 x.2.2.2.1).2.2.2)) then
                  k (.inl (x.1, x.2.1, x.2.2.1, x.2.2.2.2.2.2, x.2.2.2.2.1, x.2.2.2.2.2.1, (IntKind.wrap .i64 (x.2.2.2.2.2.2 + (1 : Int)))))
                else
                  k (.inl (x.1, x.2.1, x.2.2.1, x.2.2.2.1, x.2.2.2.2.1, x.2.2.2.2.2.1, (IntKind.wrap .i64 (x.2.2.2.2.2.2 + (1 : Int)))))
              else none
          else
            k (.inl (x.1, x.2.1, x.2.2.1, x.2.2.2.1, x.2.2.2.2.1, x.2.2.2.2.2.1, (IntKind.wrap .i64 (x.2.2.2.2.2.2 + (1 : Int)))))
        else
          k (.inl (x.1, x.2.1, x.2.2.1, x.2.2.2.1, x.2.2.2.2.1, x.2.2.2.2.2.1, (IntKind.wrap .i64 (x.2.2.2.2.2.2 + (1 : Int)))))
      else none
    else
      k (.inr (x.1, x.2.1, x.2.2.1, x.2.2.2.1, x.2.2.2.2.1, x.2.2.2.2.2.1, x.2.2.2.2.2.2))

theorem impl_lastAt_bp0 (x : ((List dVersion) × ByteArray × Int × Int × (List dVersion) × Int × Int)) : Par (impl_lastAt_b0 x) := by
  unfold impl_lastAt_b0
  exact (par_bif (par_ite (c := 0 ≤ x.2.2.2.2.2.2 ∧ x.2.2.2.2.2.2 < (x.2.2.2.2.1.length : Int)) (par_bif (par_bif (par_bif (par_ret _) (par_ite (c := 0 ≤ x.2.2.2.1 ∧ x.2.2.2.1 < (x.1.length : Int)) (par_bif (par_ret _) (par_ret _)) par_none)) (par_ret _)) (par_ret _)) par_none) (par_ret _))

def impl_lastAt_d (a0 : (List dVersion)) (a1 : ByteArray) (a2 : Int) (k : Int → Option Res) : Option Res :=
  loopK impl_lastAt_b0 Fuel (a0, a1, a2, (-1 : Int), a0, (a0.length : Int), (0 : Int)) (fun z1 =>
    k z1.2.2.2.1)

theorem impl_lastAt_h : ∃ g : (List dVersion) → ByteArray → Int → (Int → Option Res) → Option Res, g = impl_lastAt_d := ⟨_, rfl⟩
def impl_lastAt_k : (List dVersion) → ByteArray → Int → (Int → Option Res) → Option Res := Classical.choose impl_lastAt_h
theorem impl_lastAt_e : impl_lastAt_k = impl_lastAt_d := Classical.choose_spec impl_lastAt_h

theorem impl_lastAt_p (a0 : (List dVersion)) (a1 : ByteArray) (a2 : Int) : Par (impl_lastAt_k a0 a1 a2) := by
  rw [impl_lastAt_e]
  unfold impl_lastAt_d
  exact ((par_loop impl_lastAt_bp0 Fuel (a0, a1, a2, (-1 : Int), a0, (a0.length : Int), (0 : Int))).bind fun z1 => (par_ret _))

def impl_SeenAt_d (a0 : (List dVersion)) (a1 : ByteArray) (a2 : Int) (k : (ByteArray × Bool) → Option Res) : Option Res :=
  impl_lastAt_k a0 a1 a2 (fun y1 =>
    bif (decide (y1 < (0 : Int))) then
      k ((⟨#[]⟩ : ByteArray), false)
    else
      if 0 ≤ y1 ∧ y1 < (a0.length : Int) then
        bif (rd (Ty.zero tVersion) a0 y1).2.2.1 then
          k ((⟨#[]⟩ : ByteArray), false)
        else
          if 0 ≤ y1 ∧ y1 < (a0.length : Int) then
            k ((rd (Ty.zero tVersion) a0 y1).2.1, true)
          else none
      else none)

theorem impl_SeenAt_h : ∃ g : (List dVersion) → ByteArray → Int → ((ByteArray × Bool) → Option Res) → Option Res, g = impl_SeenAt_d := ⟨_, rfl⟩
def impl_SeenAt_k : (List dVersion) → ByteArray → Int → ((ByteArray × Bool) → Option Res) → Option Res := Classical.choose impl_SeenAt_h
theorem impl_SeenAt_e : impl_SeenAt_k = impl_SeenAt_d := Classical.choose_spec impl_SeenAt_h

theorem impl_SeenAt_p (a0 : (List dVersion)) (a1 : ByteArray) (a2 : Int) : Par (impl_SeenAt_k a0 a1 a2) := by
  rw [impl_SeenAt_e]
  unfold impl_SeenAt_d
  exact ((impl_lastAt_p a0 a1 a2).bind fun y1 => (par_bif (par_ret _) (par_ite (c := 0 ≤ y1 ∧ y1 < (a0.length : Int)) (par_bif (par_ret _) (par_ite (c := 0 ≤ y1 ∧ y1 < (a0.length : Int)) (par_ret _) par_none)) par_none)))

def impl_InRange_d (a0 : dRange) (a1 : ByteArray) (k : Bool → Option Res) : Option Res :=
  bif (!(strLess a1 a0.1)) then
    k ((strLess a1 a0.2) || (strEq a1 a0.2))
  else
    k false

theorem impl_InRange_h : ∃ g : dRange → ByteArray → (Bool → Option Res) → Option Res, g = impl_InRange_d := ⟨_, rfl⟩
def impl_InRange_k : dRange → ByteArray → (Bool → Option Res) → Option Res := Classical.choose impl_InRange_h
theorem impl_InRange_e : impl_InRange_k = impl_InRange_d := Classical.choose_spec impl_InRange_h

theorem impl_InRange_p (a0 : dRange) (a1 : ByteArray) : Par (impl_InRange_k a0 a1) := by
  rw [impl_InRange_e]
  unfold impl_InRange_d
  exact (par_bif (par_ret _) (par_ret _))

def impl_ScanAt_b0 (x : ((List dVersion) × Int × Int × Int × ByteArray × ByteArray × (List dRange) × (List ByteArray))) (k : ((List dVersion) × Int × Int × Int × ByteArray × ByteArray × (List dRange) × (List ByteArray)) ⊕ ((List dVersion) × Int × Int × Int × ByteArray × ByteArray × (List dRange) × (List ByteArray)) → Option Res) : Option Res :=
    bif (decide (x.2.2.2.1 < x.2.2.1)) then
      if 0 ≤ x.2.2.2.1 ∧ x.2.2.2.1 < (x.2.2.2.2.2.2.2.length : Int) then
        impl_SeenAt_k x.1 (x.2.2.2.2.2.2.2.getD x.2.2.2.1.toNat (Ty.zero .str)) x.2.1 (fun y3 =>
          bif y3.2 then
            impl_InRange_k (x.2.2.2.2.1, x.2.2.2.2.2.1) (x.2.2.2.2.2.2.2.getD x.2.2.2.1.toNat (Ty.zero .str)) (fun y4 =>
              bif y4 then
                if x.2.2.2.2.2.2.1.length + [((x.2.2.2.2.2.2.2.getD x.2.2.2.1.toNat (Ty.zero .str)), y3.1)].length ≤ VE.maxLen then
                  k (.inl (x.1, x.2.1, x.2.2.1, (IntKind.wrap .i64 (x.2.2.2.1 + (1 : Int))), x.2.2.2.2.1, x.2.2.2.2.2.1, (x.2.2.2.2.2.2.1 ++ [((x.2.2.2.2.2.2.2.getD x.2.2.2.1.toNat (Ty.zero .str)), y3.1)]), x.2.2.2.2.2.2.2))
                else none
              else
                k (.inl (x.1, x.2.1, x.2.2.1, (IntKind.wrap .i64 (x.2.2.2.1 + (1 : Int))), x.2.2.2.2.1, x.2.2.2.2.2.1, x.2.2.2.2.2.2.1, x.2.2.2.2.2.2.2)))
          else
            k (.inl (x.1, x.2.1, x.2.2.1, (IntKind.wrap .i64 (x.2.2.2.1 + (1 : Int))), x.2.2.2.2.1, x.2.2.2.2.2.1, x.2.2.2.2.2.2.1, x.2.2.2.2.2.2.2)))
      else none
    else
      k (.inr (x.1, x.2.1, x.2.2.1, x.2.2.2.1, x.2.2.2.2.1, x.2.2.2.2.2.1, x.2.2.2.2.2.2.1, x.2.2.2.2.2.2.2))

theorem impl_ScanAt_bp0 (x : ((List dVersion) × Int × Int × Int × ByteArray × ByteArray × (List dRange) × (List ByteArray))) : Par (impl_ScanAt_b0 x) := by
  unfold impl_ScanAt_b0
  exact (par_bif (par_ite (c := 0 ≤ x.2.2.2.1 ∧ x.2.2.2.1 < (x.2.2.2.2.2.2.2.length : Int)) ((impl_SeenAt_p x.1 (x.2.2.2.2.2.2.2.getD x.2.2.2.1.toNat (Ty.zero .str)) x.2.1).bind fun y3 => (par_bif ((impl_InRange_p (x.2.2.2.2.1, x.2.2.2.2.2.1) (x.2.2.2.2.2.2.2.getD x.2.2.2.1.toNat (Ty.zero .str))).bind fun y4 => (par_bif (par_ite (c := x.2.2.2.2.2.2.1.length + [((x.2.2.2.2.2.2.2.getD x.2.2.2.1.toNat (Ty.zero .str)), y3.1)].length ≤ VE.maxLen) (par_ret _) par_none) (par_ret _))) (par_ret _))) par_none) (par_ret _))

def impl_ScanAt_d (a0 : (List dVersion)) (a1 : dRange) (a2 : Int) (k : (List dRange) → Option Res) : Option Res :=
  impl_keysOf_k a0 (fun y1 =>
    loopK impl_ScanAt_b0 Fuel (a0, a2, (y1.length : Int), (0 : Int), a1.1, a1.2, ([] : List dRange), y1) (fun z2 =>
      k z2.2.2.2.2.2.2.1))

theorem impl_ScanAt_h : ∃ g : (List dVersion) → dRange → Int → ((List dRange) → Option Res) → Option Res, g = impl_ScanAt_d := ⟨_, rfl⟩
def impl_ScanAt_k : (List dVersion) → dRange → Int → ((List dRange) → Option Res) → Option Res := Classical.choose impl_ScanAt_h
theorem impl_ScanAt_e : impl_ScanAt_k = impl_ScanAt_d := Classical.choose_spec impl_ScanAt_h

theorem impl_ScanAt_p (a0 : (List dVersion)) (a1 : dRange) (a2 : Int) : Par (impl_ScanAt_k a0 a1 a2) := by
  rw [impl_ScanAt_e]
  unfold impl_ScanAt_d
  exact ((impl_keysOf_p a0).bind fun y1 => ((par_loop impl_ScanAt_bp0 Fuel (a0, a2, (y1.length : Int), (0 : Int), a1.1, a1.2, ([] : List dRange), y1)).bind fun z2 => (par_ret _)))

def slices_Equal_Pair_b0 (x : ((List dRange) × (List dRange) × Bool × Int × Int)) (k : ((List dRange) × (List dRange) × Bool × Int × Int) ⊕ (((List dRange) × (List dRange) × Bool × Int × Int) ⊕ ((List dRange) × (List dRange) × Bool × Int × Int)) → Option Res) : Option Res :=
    bif (decide (x.2.2.2.2 < x.2.2.2.1)) then
      if 0 ≤ x.2.2.2.2 ∧ x.2.2.2.2 < (x.1.length : Int) then
        if 0 ≤ x.2.2.2.2 ∧ x.2.2.2.2 < (x.2.1.length : Int) then
          bif (!(Ty.eqB tRange (rd (Ty.zero tRange) x.1 x.2.2.2.2) (rd (Ty.zero tRange) x.2.1 x.2.2.2.2))) then
            k (.inr (.inl (x.1, x.2.1, false, x.2.2.2.1, x.2.2.2.2)))
          else
            k (.inl (x.1, x.2.1, x.2.2.1, x.2.2.2.1, (IntKind.wrap .i64 (x.2.2.2.2 + (1 : Int)))))
        else none
      else none
    else
      k (.inr (.inr (x.1, x.2.1, x.2.2.1, x.2.2.2.1, x.2.2.2.2)))

theorem slices_Equal_Pair_bp0 (x : ((List dRange) × (List dRange) × Bool × Int × Int)) : Par (slices_Equal_Pair_b0 x) := by
  unfold slices_Equal_Pair_b0
  exact (par_bif (par_ite (c := 0 ≤ x.2.2.2.2 ∧ x.2.2.2.2 < (x.1.length : Int)) (par_ite (c := 0 ≤ x.2.2.2.2 ∧ x.2.2.2.2 < (x.2.1.length : Int)) (par_bif (par_ret _) (par_ret _)) par_none) par_none) (par_ret _))

def slices_Equal_Pair_d (a0 : (List dRange)) (a1 : (List dRange)) (k : Bool → Option Res) : Option Res :=
  bif ((a0.length : Int) != (a1.length : Int)) then
    k false
  else
    loopK slices_Equal_Pair_b0 Fuel (a0, a1, false, (a0.length : Int), (0 : Int)) (Sum.elim (fun z1 =>
      k z1.2.2.1) (fun _ =>
      k true))

theorem slices_Equal_Pair_h : ∃ g : (List dRange) → (List dRange) → (Bool → Option Res) → Option Res, g = slices_Equal_Pair_d := ⟨_, rfl⟩
def slices_Equal_Pair_k : (List dRange) → (List dRange) → (Bool → Option Res) → Option Res := Classical.choose slices_Equal_Pair_h
theorem slices_Equal_Pair_e : slices_Equal_Pair_k = slices_Equal_Pair_d := Classical.choose_spec slices_Equal_Pair_h

theorem slices_Equal_Pair_p (a0 : (List dRange)) (a1 : (List dRange)) : Par (slices_Equal_Pair_k a0 a1) := by
  rw [slices_Equal_Pair_e]
  unfold slices_Equal_Pair_d
  exact (par_bif (par_ret _) ((par_loop slices_Equal_Pair_bp0 Fuel (a0, a1, false, (a0.length : Int), (0 : Int))).bind2 (fun z1 => (par_ret _)) (fun z2 => (par_ret _))))

def impl_SameFrom_1_d (a0 : Int) (a1 : (List dVersion)) (a2 : (List dVersion)) (k : (Bool × (List dVersion) × (List dVersion)) → Option Res) : Option Res :=
  impl_allKeys_k  (fun y1 =>
    impl_ScanAt_k a1 y1 a0 (fun y2 =>
      impl_allKeys_k  (fun y3 =>
        impl_ScanAt_k a2 y3 a0 (fun y4 =>
          slices_Equal_Pair_k y2 y4 (fun y5 =>
            k (y5, a1, a2))))))

theorem impl_SameFrom_1_h : ∃ g : Int → (List dVersion) → (List dVersion) → ((Bool × (List dVersion) × (List dVersion)) → Option Res) → Option Res, g = impl_SameFrom_1_d := ⟨_, rfl⟩
def impl_SameFrom_1_k : Int → (List dVersion) → (List dVersion) → ((Bool × (List dVersion) × (List dVersion)) → Option Res) → Option Res := Classical.choose impl_SameFrom_1_h
theorem impl_SameFrom_1_e : impl_SameFrom_1_k = impl_SameFrom_1_d := Classical.choose_spec impl_SameFrom_1_h

theorem impl_SameFrom_1_p (a0 : Int) (a1 : (List dVersion)) (a2 : (List dVersion)) : Par (impl_SameFrom_1_k a0 a1 a2) := by
  rw [impl_SameFrom_1_e]
  unfold impl_SameFrom_1_d
  exact ((impl_allKeys_p ).bind fun y1 => ((impl_ScanAt_p a1 y1 a0).bind fun y2 => ((impl_allKeys_p ).bind fun y3 => ((impl_ScanAt_p a2 y3 a0).bind fun y4 => ((slices_Equal_Pair_p y2 y4).bind fun y5 => (par_ret _))))))

def impl_SameFrom_b0 (x : (Int × Bool × Int × Int × (List dVersion) × (List dVersion) × (List dVersion))) (k : (Int × Bool × Int × Int × (List dVersion) × (List dVersion) × (List dVersion)) ⊕ ((Int × Bool × Int × Int × (List dVersion) × (List dVersion) × (List dVersion)) ⊕ (Int × Bool × Int × Int × (List dVersion) × (List dVersion) × (List dVersion))) → Option Res) : Option Res :=
    bif (decide (x.2.2.2.1 < x.2.2.1)) then
      if 0 ≤ x.2.2.2.1 ∧ x.2.2.2.1 < (x.2.2.2.2.2.2.length : Int) then
        bif (decide ((x.2.2.2.2.2.2.getD x.2.2.2.1.toNat (Ty.zero tVersion)).2.2.2 > x.1)) then
          impl_SameFrom_1_k ((x.2.2.2.2.2.2.getD x.2.2.2.1.toNat (Ty.zero tVersion)).2.2.2) x.2.2.2.2.1 x.2.2.2.2.2.1 (fun y5 =>
            bif (!y5.1) then
              k (.inr (.inl (x.1, false, x.2.2.1, x.2.2.2.1, y5.2.1, y5.2.2, x.2.2.2.2.2.2)))
            else
              k (.inl (x.1, x.2.1, x.2.2.1, (IntKind.wrap .i64 (x.2.2.2.1 + (1 : Int))), y5.2.1, y5.2.2, x.2.2.2.2.2.2)))
        else
          k (.inl (x.1, x.2.1, x.2.2.1, (IntKind.wrap .i64 (x.2.2.2.1 + (1 : Int))), x.2.2.2.2.1, x.2.2.2.2.2.1, x.2.2.2.2.2.2))
      else none
    else
      k (.inr (.inr (x.1, x.2.1, x.2.2.1, x.2.2.2.1, x.2.2.2.2.1, x.2.2.2.2.2.1, x.2.2.2.2.2.2)))

theorem impl_SameFrom_bp0 (x : (Int × Bool × Int × Int × (List dVersion) × (List dVersion) × (List dVersion))) : Par (impl_SameFrom_b0 x) := by
  unfold impl_SameFrom_b0
  exact (par_bif (par_ite (c := 0 ≤ x.2.2.2.1 ∧ x.2.2.2.1 < (x.2.2.2.2.2.2.length : Int)) (par_bif ((impl_SameFrom_1_p ((x.2.2.2.2.2.2.getD x.2.2.2.1.toNat (Ty.zero tVersion)).2.2.2) x.2.2.2.2.1 x.2.2.2.2.2.1).bind fun y5 => (par_bif (par_ret _) (par_ret _))) (par_ret _)) par_none) (par_ret _))

def impl_SameFrom_d (a0 : (List dVersion)) (a1 : (List dVersion)) (a2 : Int) (k : Bool → Option Res) : Option Res :=
  slices_Concat_Version_k [a0, a1] (fun y1 =>
    loopK impl_SameFrom_b0 Fuel (a2, false, (y1.length : Int), (0 : Int), a0, a1, y1) (Sum.elim (fun z2 =>
      k z2.2.1) (fun z3 =>
      impl_SameFrom_1_k z3.1 z3.2.2.2.2.1 z3.2.2.2.2.2.1 (fun y4 =>
        k y4.1))))

theorem impl_SameFrom_h : ∃ g : (List dVersion) → (List dVersion) → Int → (Bool → Option Res) → Option Res, g = impl_SameFrom_d := ⟨_, rfl⟩
def impl_SameFrom_k : (List dVersion) → (List dVersion) → Int → (Bool → Option Res) → Option Res := Classical.choose impl_SameFrom_h
theorem impl_SameFrom_e : impl_SameFrom_k = impl_SameFrom_d := Classical.choose_spec impl_SameFrom_h

theorem impl_SameFrom_p (a0 : (List dVersion)) (a1 : (List dVersion)) (a2 : Int) : Par (impl_SameFrom_k a0 a1 a2) := by
  rw [impl_SameFrom_e]
  unfold impl_SameFrom_d
  exact ((slices_Concat_Version_p [a0, a1]).bind fun y1 => ((par_loop impl_SameFrom_bp0 Fuel (a2, false, (y1.length : Int), (0 : Int), a0, a1, y1)).bind2 (fun z2 => (par_ret _)) (fun z3 => ((impl_SameFrom_1_p z3.1 z3.2.2.2.2.1 z3.2.2.2.2.2.1).bind fun y4 => (par_ret _)))))

def laws_eqVersion_d (a0 : dVersion) (a1 : dVersion) (k : Bool → Option Res) : Option Res :=
  bif (!(strEq a0.1 a1.1)) then
    k false
  else
    bif (!(strEq a0.2.1 a1.2.1)) then
      k false
    else
      bif (!(a0.2.2.1 == a1.2.2.1)) then
        k false
      else
        bif (a0.2.2.2 != a1.2.2.2) then
          k false
        else
          k true

theorem laws_eqVersion_h : ∃ g : dVersion → dVersion → (Bool → Option Res) → Option Res, g = laws_eqVersion_d := ⟨_, rfl⟩
def laws_eqVersion_k : dVersion → dVersion → (Bool → Option Res) → Option Res := Classical.choose laws_eqVersion_h
theorem laws_eqVersion_e : laws_eqVersion_k = laws_eqVersion_d := Classical.choose_spec laws_eqVersion_h

theorem laws_eqVersion_p (a0 : dVersion) (a1 : dVersion) : Par (laws_eqVersion_k a0 a1) := by
  rw [laws_eqVersion_e]
  unfold laws_eqVersion_d
  exact (par_bif (par_ret _) (par_bif (par_ret _) (par_bif (par_ret _) (par_bif (par_ret _) (par_ret _)))))

def laws_eqVersionS_b0 (x : ((List dVersion) × (List dVersion) × Bool × Int)) (k : ((List dVersion) × (List dVersion) × Bool × Int) ⊕ (((List dVersion) × (List dVersion) × Bool × Int) ⊕ ((List dVersion) × (List dVersion) × Bool × Int)) → Option Res) : Option Res :=
    bif (decide (x.2.2.2 < (x.1.length : Int))) then
      if 0 ≤ x.2.2.2 ∧ x.2.2.2 < (x.1.length : Int) then
        if 0 ≤ x.2.2.2 ∧ x.2.2.2 < (x.2.1.length : Int) then
          laws_eqVersion_k (rd (Ty.zero tVersion) x.1 x.2.2.2) (rd (Ty.zero tVersion) x.2.1 x.2.2.2) (fun y3 =>
            bif (!y3) then
              k (.inr (.inl (x.1, x.2.1, false, x.2.2.2)))
            else
              k (.inl (x.1, x.2.1, x.2.2.1, (IntKind.wrap .i64 (x.2.2.2 + (1 : Int))))))
        else none
      else none
    else
      k (.inr (.inr (x.1, x.2.1, x.2.2.1, x.2.2.2)))

theorem laws_eqVersionS_bp0 (x : ((List dVersion) × (List dVersion) × Bool × Int)) : Par (laws_eqVersionS_b0 x) := by
  unfold laws_eqVersionS_b0
  exact (par_bif (par_ite (c := 0 ≤ x.2.2.2 ∧ x.2.2.2 < (x.1.length : Int)) (par_ite (c := 0 ≤ x.2.2.2 ∧ x.2.2.2 < (x.2.1.length : Int)) ((laws_eqVersion_p (rd (Ty.zero tVersion) x.1 x.2.2.2) (rd (Ty.zero tVersion) x.2.1 x.2.2.2)).bind fun y3 => (par_bif (par_ret _) (par_ret _))) par_none) par_none) (par_ret _))

def laws_eqVersionS_d (a0 : (List dVersion)) (a1 : (List dVersion)) (k : Bool → Option Res) : Option Res :=
  bif ((a0.length : Int) != (a1.length : Int)) then
    k false
  else
    loopK laws_eqVersionS_b0 Fuel (a0, a1, false, (0 : Int)) (Sum.elim (fun z1 =>
      k z1.2.2.1) (fun _ =>
      k true))

theorem laws_eqVersionS_h : ∃ g : (List dVersion) → (List dVersion) → (Bool → Option Res) → Option Res, g = laws_eqVersionS_d := ⟨_, rfl⟩
def laws_eqVersionS_k : (List dVersion) → (List dVersion) → (Bool → Option Res) → Option Res := Classical.choose laws_eqVersionS_h
theorem laws_eqVersionS_e : laws_eqVersionS_k = laws_eqVersionS_d := Classical.choose_spec laws_eqVersionS_h

theorem laws_eqVersionS_p (a0 : (List dVersion)) (a1 : (List dVersion)) : Par (laws_eqVersionS_k a0 a1) := by
  rw [laws_eqVersionS_e]
  unfold laws_eqVersionS_d
  exact (par_bif (par_ret _) ((par_loop laws_eqVersionS_bp0 Fuel (a0, a1, false, (0 : Int))).bind2 (fun z1 => (par_ret _)) (fun z2 => (par_ret _))))

def laws_FnExactSameFrom_d (a0 : (List dVersion)) (a1 : (List dVersion)) (a2 : Int) (k : Bool → Option Res) : Option Res :=
  laws_szVersionS_k a0 (1048576 : Int) (fun y1 =>
    bif (decide (y1 < (0 : Int))) then
      k true
    else
      laws_szVersionS_k a1 y1 (fun y2 =>
        bif (decide (y2 < (0 : Int))) then
          k true
        else
          laws_toVersionS_k a0 (fun y3 =>
            laws_toVersionS_k a1 (fun y4 =>
              spec_SameFrom_k y3 y4 a2 (fun y5 =>
                laws_toVersionS_k a0 (fun y6 =>
                  laws_toVersionS_k a1 (fun y7 =>
                    impl_SameFrom_k y6 y7 a2 (fun y8 =>
                      bif (!(y8 == y5)) then
                        k false
                      else
                        laws_toVersionS_k a0 (fun y9 =>
                          laws_eqVersionS_k y6 y9 (fun y10 =>
                            bif (!y10) then
                              k false
                            else
                              laws_toVersionS_k a1 (fun y11 =>
                                laws_eqVersionS_k y7 y11 (fun y12 =>
                                  bif (!y12) then
                                    k false
                                  else
                                    k true))))))))))))

theorem laws_FnExactSameFrom_h : ∃ g : (List dVersion) → (List dVersion) → Int → (Bool → Option Res) → Option Res, g = laws_FnExactSameFrom_d := ⟨_, rfl⟩
def laws_FnExactSameFrom_k : (List dVersion) → (List dVersion) → Int → (Bool → Option Res) → Option Res := Classical.choose laws_FnExactSameFrom_h
theorem laws_FnExactSameFrom_e : laws_FnExactSameFrom_k = laws_FnExactSameFrom_d := Classical.choose_spec laws_FnExactSameFrom_h

theorem laws_FnExactSameFrom_p (a0 : (List dVersion)) (a1 : (List dVersion)) (a2 : Int) : Par (laws_FnExactSameFrom_k a0 a1 a2) := by
  rw [laws_FnExactSameFrom_e]
  unfold laws_FnExactSameFrom_d
  exact ((laws_szVersionS_p a0 (1048576 : Int)).bind fun y1 => (par_bif (par_ret _) ((laws_szVersionS_p a1 y1).bind fun y2 => (par_bif (par_ret _) ((laws_toVersionS_p a0).bind fun y3 => ((laws_toVersionS_p a1).bind fun y4 => ((spec_SameFrom_p y3 y4 a2).bind fun y5 => ((laws_toVersionS_p a0).bind fun y6 => ((laws_toVersionS_p a1).bind fun y7 => ((impl_SameFrom_p y6 y7 a2).bind fun y8 => (par_bif (par_ret _) ((laws_toVersionS_p a0).bind fun y9 => ((laws_eqVersionS_p y6 y9).bind fun y10 => (par_bif (par_ret _) ((laws_toVersionS_p a1).bind fun y11 => ((laws_eqVersionS_p y7 y11).bind fun y12 => (par_bif (par_ret _) (par_ret _))))))))))))))))))

def laws_szVersion_g (args : List AV) (st : St) (k : K1) : Option Res :=
  onPats [.agg [.str, .str, .bool, .int .i64], .int .i64] [] args st (fun p q => laws_szVersion_k (p.1.1, (p.1.2.1, (p.1.2.2.1, p.1.2.2.2.1))) p.2.1 (fun (y : Int) => k (.int .i64 y) []))
    (none)

theorem laws_szVersion_q (a0 : ByteArray) (a1 : ByteArray) (a2 : Bool) (a3 : Int) (a4 : Int) : Par (fun k : AV × St → Option Res => laws_szVersion_g [.agg [.str a0, .str a1, .bool a2, .int .i64 a3], .int .i64 a4] [] (fun v s => k (v, s))) :=
  (laws_szVersion_p (a0, (a1, (a2, a3))) a4).bind (H := fun (y : Int) (k : AV × St → Option Res) => (fun (y : Int) => k ((.int .i64 y : AV), ([] : St))) y) (fun y => par_ret _)

def laws_szVersionS_g (args : List AV) (st : St) (k : K1) : Option Res :=
  onPats [.lst tVersion, .int .i64] [] args st (fun p q => laws_szVersionS_k p.1 p.2.1 (fun (y : Int) => k (.int .i64 y) []))
    (none)

theorem laws_szVersionS_q (a0 : (List dVersion)) (a1 : Int) : Par (fun k : AV × St → Option Res => laws_szVersionS_g [.lst tVersion a0, .int .i64 a1] [] (fun v s => k (v, s))) :=
  (laws_szVersionS_p a0 a1).bind (H := fun (y : Int) (k : AV × St → Option Res) => (fun (y : Int) => k ((.int .i64 y : AV), ([] : St))) y) (fun y => par_ret _)

def laws_toVersion_g (args : List AV) (st : St) (k : K1) : Option Res :=
  onPats [.agg [.str, .str, .bool, .int .i64]] [] args st (fun p q => laws_toVersion_k (p.1.1, (p.1.2.1, (p.1.2.2.1, p.1.2.2.2.1))) (fun (y : (ByteArray × ByteArray × Bool × Int)) => k (.agg [.str y.1, .str y.2.1, .bool y.2.2.1, .int .i64 y.2.2.2]) []))
    (none)

theorem laws_toVersion_q (a0 : ByteArray) (a1 : ByteArray) (a2 : Bool) (a3 : Int) : Par (fun k : AV × St → Option Res => laws_toVersion_g [.agg [.str a0, .str a1, .bool a2, .int .i64 a3]] [] (fun v s => k (v, s))) :=
  (laws_toVersion_p (a0, (a1, (a2, a3)))).bind (H := fun (y : (ByteArray × ByteArray × Bool × Int)) (k : AV × St → Option Res) => (fun (y : (ByteArray × ByteArray × Bool × Int)) => k ((.agg [.str y.1, .str y.2.1, .bool y.2.2.1, .int .i64 y.2.2.2] : AV), ([] : St))) y) (fun y => par_ret _)

def laws_toVersionS_g (args : List AV) (st : St) (k : K1) : Option Res :=
  onPats [.lst tVersion] [] args st (fun p q => laws_toVersionS_k p.1 (fun (y : (List dVersion)) => k (.own 0) [.arr tVersion y]))
    (none)

theorem laws_toVersionS_q (a0 : (List dVersion)) : Par (fun k : AV × St → Option Res => laws_toVersionS_g [.lst tVersion a0] [] (fun v s => k (v, s))) :=
  (laws_toVersionS_p a0).bind (H := fun (y : (List dVersion)) (k : AV × St → Option Res) => (fun (y : (List dVersion)) => k ((.own 0 : AV), ([.arr tVersion y] : St))) y) (fun y => par_ret _)

def spec_l06All_g (args : List AV) (st : St) (k : K1) : Option Res :=
  onPats [] [] args st (fun p q => spec_l06All_k  (fun (y : (ByteArray × ByteArray)) => k (.agg [.str y.1, .str y.2]) []))
    (none)

theorem spec_l06All_q  : Par (fun k : AV × St → Option Res => spec_l06All_g [] [] (fun v s => k (v, s))) :=
  (spec_l06All_p ).bind (H := fun (y : (ByteArray × ByteArray)) (k : AV × St → Option Res) => (fun (y : (ByteArray × ByteArray)) => k ((.agg [.str y.1, .str y.2] : AV), ([] : St))) y) (fun y => par_ret _)

def spec_InRange_g (args : List AV) (st : St) (k : K1) : Option Res :=
  onPats [.agg [.str, .str], .str] [] args st (fun p q => spec_InRange_k (p.1.1, p.1.2.1) p.2.1 (fun (y : Bool) => k (.bool y) []))
    (none)

theorem spec_InRange_q (a0 : ByteArray) (a1 : ByteArray) (a2 : ByteArray) : Par (fun k : AV × St → Option Res => spec_InRange_g [.agg [.str a0, .str a1], .str a2] [] (fun v s => k (v, s))) :=
  (spec_InRange_p (a0, a1) a2).bind (H := fun (y : Bool) (k : AV × St → Option Res) => (fun (y : Bool) => k ((.bool y : AV), ([] : St))) y) (fun y => par_ret _)

def spec_l06Keys_g (args : List AV) (st : St) (k : K1) : Option Res :=
  onPats [.lst tVersion, .agg [.str, .str]] [] args st (fun p q => spec_l06Keys_k p.1 (p.2.1.1, p.2.1.2.1) (fun (y : (List ByteArray)) => k (.own 0) [.arr .str y]))
    (none)

theorem spec_l06Keys_q (a0 : (List dVersion)) (a1 : ByteArray) (a2 : ByteArray) : Par (fun k : AV × St → Option Res => spec_l06Keys_g [.lst tVersion a0, .agg [.str a1, .str a2]] [] (fun v s => k (v, s))) :=
  (spec_l06Keys_p a0 (a1, a2)).bind (H := fun (y : (List ByteArray)) (k : AV × St → Option Res) => (fun (y : (List ByteArray)) => k ((.own 0 : AV), ([.arr .str y] : St))) y) (fun y => par_ret _)

def spec_l06At_g (args : List AV) (st : St) (k : K1) : Option Res :=
  onPats [.lst tVersion, .str, .int .i64] [] args st (fun p q => spec_l06At_k p.1 p.2.1 p.2.2.1 (fun (y : Int) => k (.int .i64 y) []))
    (none)

theorem spec_l06At_q (a0 : (List dVersion)) (a1 : ByteArray) (a2 : Int) : Par (fun k : AV × St → Option Res => spec_l06At_g [.lst tVersion a0, .str a1, .int .i64 a2] [] (fun v s => k (v, s))) :=
  (spec_l06At_p a0 a1 a2).bind (H := fun (y : Int) (k : AV × St → Option Res) => (fun (y : Int) => k ((.int .i64 y : AV), ([] : St))) y) (fun y => par_ret _)

def spec_SeenAt_g (args : List AV) (st : St) (k : K1) : Option Res :=
  onPats [.lst tVersion, .str, .int .i64] [] args st (fun p q => spec_SeenAt_k p.1 p.2.1 p.2.2.1 (fun (y : (ByteArray × Bool)) => k (.tup [.str y.1, .bool y.2]) []))
    (none)

theorem spec_SeenAt_q (a0 : (List dVersion)) (a1 : ByteArray) (a2 : Int) : Par (fun k : AV × St → Option Res => spec_SeenAt_g [.lst tVersion a0, .str a1, .int .i64 a2] [] (fun v s => k (v, s))) :=
  (spec_SeenAt_p a0 a1 a2).bind (H := fun (y : (ByteArray × Bool)) (k : AV × St → Option Res) => (fun (y : (ByteArray × Bool)) => k ((.tup [.str y.1, .bool y.2] : AV), ([] : St))) y) (fun y => par_ret _)

def spec_ScanAt_g (args : List AV) (st : St) (k : K1) : Option Res :=
  onPats [.lst tVersion, .agg [.str, .str], .int .i64] [] args st (fun p q => spec_ScanAt_k p.1 (p.2.1.1, p.2.1.2.1) p.2.2.1 (fun (y : (List dRange)) => k (.own 0) [.arr tRange y]))
    (none)

theorem spec_ScanAt_q (a0 : (List dVersion)) (a1 : ByteArray) (a2 : ByteArray) (a3 : Int) : Par (fun k : AV × St → Option Res => spec_ScanAt_g [.lst tVersion a0, .agg [.str a1, .str a2], .int .i64 a3] [] (fun v s => k (v, s))) :=
  (spec_ScanAt_p a0 (a1, a2) a3).bind (H := fun (y : (List dRange)) (k : AV × St → Option Res) => (fun (y : (List dRange)) => k ((.own 0 : AV), ([.arr tRange y] : St))) y) (fun y => par_ret _)

def spec_l06Pairs_g (args : List AV) (st : St) (k : K1) : Option Res :=
  onPats [.lst tRange, .lst tRange] [] args st (fun p q => spec_l06Pairs_k p.1 p.2.1 (fun (y : Bool) => k (.bool y) []))
    (none)

theorem spec_l06Pairs_q (a0 : (List dRange)) (a1 : (List dRange)) : Par (fun k : AV × St → Option Res => spec_l06Pairs_g [.lst tRange a0, .lst tRange a1] [] (fun v s => k (v, s))) :=
  (spec_l06Pairs_p a0 a1).bind (H := fun (y : Bool) (k : AV × St → Option Res) => (fun (y : Bool) => k ((.bool y : AV), ([] : St))) y) (fun y => par_ret _)

def spec_SameFrom_g (args : List AV) (st : St) (k : K1) : Option Res :=
  onPats [.lst tVersion, .lst tVersion, .int .i64] [] args st (fun p q => spec_SameFrom_k p.1 p.2.1 p.2.2.1 (fun (y : Bool) => k (.bool y) []))
    (none)

theorem spec_SameFrom_q (a0 : (List dVersion)) (a1 : (List dVersion)) (a2 : Int) : Par (fun k : AV × St → Option Res => spec_SameFrom_g [.lst tVersion a0, .lst tVersion a1, .int .i64 a2] [] (fun v s => k (v, s))) :=
  (spec_SameFrom_p a0 a1 a2).bind (H := fun (y : Bool) (k : AV × St → Option Res) => (fun (y : Bool) => k ((.bool y : AV), ([] : St))) y) (fun y => par_ret _)

def slices_Grow_Version_g (args : List AV) (st : St) (k : K1) : Option Res :=
  onPats [.nilS, .int .i64] [] args st (fun p q => slices_Grow_Version_vn_k p.2.1 (fun (y : (List dVersion)) => k (.own 0) [.arr tVersion y]))
    (none)

theorem slices_Grow_Version_vn_q (a0 : Int) : Par (fun k : AV × St → Option Res => slices_Grow_Version_g [.nilS, .int .i64 a0] [] (fun v s => k (v, s))) :=
  (slices_Grow_Version_vn_p a0).bind (H := fun (y : (List dVersion)) (k : AV × St → Option Res) => (fun (y : (List dVersion)) => k ((.own 0 : AV), ([.arr tVersion y] : St))) y) (fun y => par_ret _)

def slices_Concat_Version_g (args : List AV) (st : St) (k : K1) : Option Res :=
  onPats [.lst (.slice tVersion)] [] args st (fun p q => slices_Concat_Version_k p.1 (fun (y : (List dVersion)) => k (.own 0) [.arr tVersion y]))
    (none)

theorem slices_Concat_Version_q (a0 : (List (List dVersion))) : Par (fun k : AV × St → Option Res => slices_Concat_Version_g [.lst (.slice tVersion) a0] [] (fun v s => k (v, s))) :=
  (slices_Concat_Version_p a0).bind (H := fun (y : (List dVersion)) (k : AV × St → Option Res) => (fun (y : (List dVersion)) => k ((.own 0 : AV), ([.arr tVersion y] : St))) y) (fun y => par_ret _)

def impl_allKeys_g (args : List AV) (st : St) (k : K1) : Option Res :=
  onPats [] [] args st (fun p q => impl_allKeys_k  (fun (y : (ByteArray × ByteArray)) => k (.agg [.str y.1, .str y.2]) []))
    (none)

theorem impl_allKeys_q  : Par (fun k : AV × St → Option Res => impl_allKeys_g [] [] (fun v s => k (v, s))) :=
  (impl_allKeys_p ).bind (H := fun (y : (ByteArray × ByteArray)) (k : AV × St → Option Res) => (fun (y : (ByteArray × ByteArray)) => k ((.agg [.str y.1, .str y.2] : AV), ([] : St))) y) (fun y => par_ret _)

def slices_Sort_string_g (args : List AV) (st : St) (k : K1) : Option Res :=
  onPats [.own 0] [.arr .str] args st (fun p q => slices_Sort_string_vo_k q.1 (fun (y : (List ByteArray)) => k (.tup []) [.arr .str y]))
    (none)

theorem slices_Sort_string_vo_q (a0 : (List ByteArray)) : Par (fun k : AV × St → Option Res => slices_Sort_string_g [.own 0] [.arr .str a0] (fun v s => k (v, s))) :=
  (slices_Sort_string_vo_p a0).bind (H := fun (y : (List ByteArray)) (k : AV × St → Option Res) => (fun (y : (List ByteArray)) => k ((.tup [] : AV), ([.arr .str y] : St))) y) (fun y => par_ret _)

def slices_Compact_string_g (args : List AV) (st : St) (k : K1) : Option Res :=
  onPats [.own 0] [.arr .str] args st (fun p q => slices_Compact_string_vo_k q.1 (Sum.elim (fun (y : (List ByteArray)) => k (.own 0) [.arr .str y]) (fun (y : (List ByteArray)) => k (.own 1) [.gone, .arr .str y])))
    (none)

theorem slices_Compact_string_vo_q (a0 : (List ByteArray)) : Par (fun k : AV × St → Option Res => slices_Compact_string_g [.own 0] [.arr .str a0] (fun v s => k (v, s))) :=
  (slices_Compact_string_vo_p a0).bind (H := fun (y : ((List ByteArray) ⊕ (List ByteArray))) (k : AV × St → Option Res) => (Sum.elim (fun (y : (List ByteArray)) => k ((.own 0 : AV), ([.arr .str y] : St))) (fun (y : (List ByteArray)) => k ((.own 1 : AV), ([.gone, .arr .str y] : St)))) y) (fun y => by rcases y with y | y <;> exact par_ret _)

def impl_keysOf_g (args : List AV) (st : St) (k : K1) : Option Res :=
  onPats [.lst tVersion] [] args st (fun p q => impl_keysOf_k p.1 (fun (y : (List ByteArray)) => k (.own 0) [.arr .str y]))
    (none)

theorem impl_keysOf_q (a0 : (List dVersion)) : Par (fun k : AV × St → Option Res => impl_keysOf_g [.lst tVersion a0] [] (fun v s => k (v, s))) :=
  (impl_keysOf_p a0).bind (H := fun (y : (List ByteArray)) (k : AV × St → Option Res) => (fun (y : (List ByteArray)) => k ((.own 0 : AV), ([.arr .str y] : St))) y) (fun y => par_ret _)

def impl_lastAt_g (args : List AV) (st : St) (k : K1) : Option Res :=
  onPats [.lst tVersion, .str, .int .i64] [] args st (fun p q => impl_lastAt_k p.1 p.2.1 p.2.2.1 (fun (y : Int) => k (.int .i64 y) []))
    (none)

theorem impl_lastAt_q (a0 : (List dVersion)) (a1 : ByteArray) (a2 : Int) : Par (fun k : AV × St → Option Res => impl_lastAt_g [.lst tVersion a0, .str a1, .int .i64 a2] [] (fun v s => k (v, s))) :=
  (impl_lastAt_p a0 a1 a2).bind (H := fun (y : Int) (k : AV × St → Option Res) => (fun (y : Int) => k ((.int .i64 y : AV), ([] : St))) y) (fun y => par_ret _)

def impl_SeenAt_g (args : List AV) (st : St) (k : K1) : Option Res :=
  onPats [.lst tVersion, .str, .int .i64] [] args st (fun p q => impl_SeenAt_k p.1 p.2.1 p.2.2.1 (fun (y : (ByteArray × Bool)) => k (.tup [.str y.1, .bool y.2]) []))
    (none)

theorem impl_SeenAt_q (a0 : (List dVersion)) (a1 : ByteArray) (a2 : Int) : Par (fun k : AV × St → Option Res => impl_SeenAt_g [.lst tVersion a0, .str a1, .int .i64 a2] [] (fun v s => k (v, s))) :=
  (impl_SeenAt_p a0 a1 a2).bind (H := fun (y : (ByteArray × Bool)) (k : AV × St → Option Res) => (fun (y : (ByteArray × Bool)) => k ((.tup [.str y.1, .bool y.2] : AV), ([] : St))) y) (fun y => par_ret _)

def impl_InRange_g (args : List AV) (st : St) (k : K1) : Option Res :=
  onPats [.agg [.str, .str], .str] [] args st (fun p q => impl_InRange_k (p.1.1, p.1.2.1) p.2.1 (fun (y : Bool) => k (.bool y) []))
    (none)

theorem impl_InRange_q (a0 : ByteArray) (a1 : ByteArray) (a2 : ByteArray) : Par (fun k : AV × St → Option Res => impl_InRange_g [.agg [.str a0, .str a1], .str a2] [] (fun v s => k (v, s))) :=
  (impl_InRange_p (a0, a1) a2).bind (H := fun (y : Bool) (k : AV × St → Option Res) => (fun (y : Bool) => k ((.bool y : AV), ([] : St))) y) (fun y => par_ret _)

def impl_ScanAt_g (args : List AV) (st : St) (k : K1) : Option Res :=
  onPats [.lst tVersion, .agg [.str, .str], .int .i64] [] args st (fun p q => impl_ScanAt_k p.1 (p.2.1.1, p.2.1.2.1) p.2.2.1 (fun (y : (List dRange)) => k (.own 0) [.arr tRange y]))
    (none)

theorem impl_ScanAt_q (a0 : (List dVersion)) (a1 : ByteArray) (a2 : ByteArray) (a3 : Int) : Par (fun k : AV × St → Option Res => impl_ScanAt_g [.lst tVersion a0, .agg [.str a1, .str a2], .int .i64 a3] [] (fun v s => k (v, s))) :=
  (impl_ScanAt_p a0 (a1, a2) a3).bind (H := fun (y : (List dRange)) (k : AV × St → Option Res) => (fun (y : (List dRange)) => k ((.own 0 : AV), ([.arr tRange y] : St))) y) (fun y => par_ret _)

def slices_Equal_Pair_g (args : List AV) (st : St) (k : K1) : Option Res :=
  onPats [.lst tRange, .lst tRange] [] args st (fun p q => slices_Equal_Pair_k p.1 p.2.1 (fun (y : Bool) => k (.bool y) []))
    (none)

theorem slices_Equal_Pair_q (a0 : (List dRange)) (a1 : (List dRange)) : Par (fun k : AV × St → Option Res => slices_Equal_Pair_g [.lst tRange a0, .lst tRange a1] [] (fun v s => k (v, s))) :=
  (slices_Equal_Pair_p a0 a1).bind (H := fun (y : Bool) (k : AV × St → Option Res) => (fun (y : Bool) => k ((.bool y : AV), ([] : St))) y) (fun y => par_ret _)

def impl_SameFrom_1_g (args : List AV) (st : St) (k : K1) : Option Res :=
  onPats [.int .i64, .bp 0 0, .bp 1 0] [.box [.lst tVersion], .box [.lst tVersion]] args st (fun p q => impl_SameFrom_1_k p.1 q.1.1 q.2.1.1 (fun (y : (Bool × (List dVersion) × (List dVersion))) => k (.bool y.1) [.box [.lst tVersion y.2.1], .box [.lst tVersion y.2.2]]))
    (none)

theorem impl_SameFrom_1_q (a0 : Int) (a1 : (List dVersion)) (a2 : (List dVersion)) : Par (fun k : AV × St → Option Res => impl_SameFrom_1_g [.int .i64 a0, .bp 0 0, .bp 1 0] [.box [.lst tVersion a1], .box [.lst tVersion a2]] (fun v s => k (v, s))) :=
  (impl_SameFrom_1_p a0 a1 a2).bind (H := fun (y : (Bool × (List dVersion) × (List dVersion))) (k : AV × St → Option Res) => (fun (y : (Bool × (List dVersion) × (List dVersion))) => k ((.bool y.1 : AV), ([.box [.lst tVersion y.2.1], .box [.lst tVersion y.2.2]] : St))) y) (fun y => par_ret _)

def impl_SameFrom_g (args : List AV) (st : St) (k : K1) : Option Res :=
  onPats [.lst tVersion, .lst tVersion, .int .i64] [] args st (fun p q => impl_SameFrom_k p.1 p.2.1 p.2.2.1 (fun (y : Bool) => k (.bool y) []))
    (none)

theorem impl_SameFrom_q (a0 : (List dVersion)) (a1 : (List dVersion)) (a2 : Int) : Par (fun k : AV × St → Option Res => impl_SameFrom_g [.lst tVersion a0, .lst tVersion a1, .int .i64 a2] [] (fun v s => k (v, s))) :=
  (impl_SameFrom_p a0 a1 a2).bind (H := fun (y : Bool) (k : AV × St → Option Res) => (fun (y : Bool) => k ((.bool y : AV), ([] : St))) y) (fun y => par_ret _)

def laws_eqVersion_g (args : List AV) (st : St) (k : K1) : Option Res :=
  onPats [.agg [.str, .str, .bool, .int .i64], .agg [.str, .str, .bool, .int .i64]] [] args st (fun p q => laws_eqVersion_k (p.1.1, (p.1.2.1, (p.1.2.2.1, p.1.2.2.2.1))) (p.2.1.1, (p.2.1.2.1, (p.2.1.2.2.1, p.2.1.2.2.2.1))) (fun (y : Bool) => k (.bool y) []))
    (none)

theorem laws_eqVersion_q (a0 : ByteArray) (a1 : ByteArray) (a2 : Bool) (a3 : Int) (a4 : ByteArray) (a5 : ByteArray) (a6 : Bool) (a7 : Int) : Par (fun k : AV × St → Option Res => laws_eqVersion_g [.agg [.str a0, .str a1, .bool a2, .int .i64 a3], .agg [.str a4, .str a5, .bool a6, .int .i64 a7]] [] (fun v s => k (v, s))) :=
  (laws_eqVersion_p (a0, (a1, (a2, a3))) (a4, (a5, (a6, a7)))).bind (H := fun (y : Bool) (k : AV × St → Option Res) => (fun (y : Bool) => k ((.bool y : AV), ([] : St))) y) (fun y => par_ret _)

def laws_eqVersionS_g (args : List AV) (st : St) (k : K1) : Option Res :=
  onPats [.lst tVersion, .lst tVersion] [] args st (fun p q => laws_eqVersionS_k p.1 p.2.1 (fun (y : Bool) => k (.bool y) []))
    (none)

theorem laws_eqVersionS_q (a0 : (List dVersion)) (a1 : (List dVersion)) : Par (fun k : AV × St → Option Res => laws_eqVersionS_g [.lst tVersion a0, .lst tVersion a1] [] (fun v s => k (v, s))) :=
  (laws_eqVersionS_p a0 a1).bind (H := fun (y : Bool) (k : AV × St → Option Res) => (fun (y : Bool) => k ((.bool y : AV), ([] : St))) y) (fun y => par_ret _)

def laws_FnExactSameFrom_g (args : List AV) (st : St) (k : K1) : Option Res :=
  onPats [.lst tVersion, .lst tVersion, .int .i64] [] args st (fun p q => laws_FnExactSameFrom_k p.1 p.2.1 p.2.2.1 (fun (y : Bool) => k (.bool y) []))
    (none)

theorem laws_FnExactSameFrom_q (a0 : (List dVersion)) (a1 : (List dVersion)) (a2 : Int) : Par (fun k : AV × St → Option Res => laws_FnExactSameFrom_g [.lst tVersion a0, .lst tVersion a1, .int .i64 a2] [] (fun v s => k (v, s))) :=
  (laws_FnExactSameFrom_p a0 a1 a2).bind (H := fun (y : Bool) (k : AV × St → Option Res) => (fun (y : Bool) => k ((.bool y : AV), ([] : St))) y) (fun y => par_ret _)

end

end Go.VE
