/- Native programs of the functions, written by gen.py. -/

import Derived.Test.YtbedbcnmfoildaaT0
import Derived.Test.YtbedbcnmfoildaaV28

namespace Go.VE

noncomputable section

set_option linter.unusedVariables false
set_option linter.unusedSimpArgs false
set_option maxRecDepth 100000


def laws_szVersion_d (a0 : dVersion) (a1 : Int) (k : Int → Option Res) : Option Res :=
  bif (decide ((IntKind.wrap .i64 (a1 - (a0.1.size : Int))) < (0 : Int))) then
    k (-1 : Int)
  else
    bif (decide ((IntKind.wrap .i64 ((IntKind.wrap .i64 (a1 - (a0.1.size : Int))) - (a0.2.1.size : Int))) < (0 : Int))) then
      k (-1 : Int)
    else
      k (IntKind.wrap .i64 ((IntKind.wrap .i64 (a1 - (a0.1.size : Int))) - (a0.2.1.size : Int)))

theorem laws_szVersion_h : ∃ g : dVersion → Int → (Int → Option Res) → Option Res, g = laws_szVersion_d := ⟨_, rfl⟩
def laws_szVersion_k : dVersion → Int → (Int → Option Res) → Option Res := Classical.choose laws_szVersion_h
theorem laws_szVersion_e : laws_szVersion_k = laws_szVersion_d := Classical.choose_spec laws_szVersion_h

theorem laws_szVersion_p (a0 : dVersion) (a1 : Int) : Par (laws_szVersion_k a0 a1) := by
  rw [laws_szVersion_e]
  unfold laws_szVersion_d
  exact (par_bif (par_ret _) (par_bif (par_ret _) (par_ret _)))

def laws_szVersionS_b0 (x : ((List dVersion) × Int × Int × Int)) (k : ((List dVersion) × Int × Int × Int) ⊕ (((List dVersion) × Int × Int × Int) ⊕ ((List dVersion) × Int × Int × Int)) → Option Res) : Option Res :=
    bif (decide (x.2.2.2 < (x.1.length : Int))) then
      if 0 ≤ x.2.2.2 ∧ x.2.2.2 < (x.1.length : Int) then
        laws_szVersion_k (rd (Ty.zero tVersion) x.1 x.2.2.2) x.2.1 (fun y3 =>
          bif (decide (y3 < (0 : Int))) then
            k (.inr (.inl (x.1, y3, (-1 : Int), x.2.2.2)))
          else
            k (.inl (x.1, y3, x.2.2.1, (IntKind.wrap .i64 (x.2.2.2 + (1 : Int))))))
      else none
    else
      k (.inr (.inr (x.1, x.2.1, x.2.2.1, x.2.2.2)))

theorem laws_szVersionS_bp0 (x : ((List dVersion) × Int × Int × Int)) : Par (laws_szVersionS_b0 x) := by
  unfold laws_szVersionS_b0
  exact (par_bif (par_ite (c := 0 ≤ x.2.2.2 ∧ x.2.2.2 < (x.1.length : Int)) ((laws_szVersion_p (rd (Ty.zero tVersion) x.1 x.2.2.2) x.2.1).bind fun y3 => (par_bif (par_ret _) (par_ret _))) par_none) (par_ret _))

def laws_szVersionS_d (a0 : (List dVersion)) (a1 : Int) (k : Int → Option Res) : Option Res :=
  bif (decide ((IntKind.wrap .i64 (a1 - (a0.length : Int))) < (0 : Int))) then
    k (-1 : Int)
  else
    loopK laws_szVersionS_b0 Fuel (a0, (IntKind.wrap .i64 (a1 - (a0.length : Int))), (0 : Int), (0 : Int)) (Sum.elim (fun z1 =>
      k z1.2.2.1) (fun z2 =>
      k z2.2.1))

theorem laws_szVersionS_h : ∃ g : (List dVersion) → Int → (Int → Option Res) → Option Res, g = laws_szVersionS_d := ⟨_, rfl⟩
def laws_szVersionS_k : (List dVersion) → Int → (Int → Option Res) → Option Res := Classical.choose laws_szVersionS_h
theorem laws_szVersionS_e : laws_szVersionS_k = laws_szVersionS_d := Classical.choose_spec laws_szVersionS_h

theorem laws_szVersionS_p (a0 : (List dVersion)) (a1 : Int) : Par (laws_szVersionS_k a0 a1) := by
  rw [laws_szVersionS_e]
  unfold laws_szVersionS_d
  exact (par_bif (par_ret _) ((par_loop laws_szVersionS_bp0 Fuel (a0, (IntKind.wrap .i64 (a1 - (a0.length : Int))), (0 : Int), (0 : Int))).bind2 (fun z1 => (par_ret _)) (fun z2 => (par_ret _))))

def laws_szRange_d (a0 : dRange) (a1 : Int) (k : Int → Option Res) : Option Res :=
  bif (decide ((IntKind.wrap .i64 (a1 - (a0.1.size : Int))) < (0 : Int))) then
    k (-1 : Int)
  else
    bif (decide ((IntKind.wrap .i64 ((IntKind.wrap .i64 (a1 - (a0.1.size : Int))) - (a0.2.size : Int))) < (0 : Int))) then
      k (-1 : Int)
    else
      k (IntKind.wrap .i64 ((IntKind.wrap .i64 (a1 - (a0.1.size : Int))) - (a0.2.size : Int)))

theorem laws_szRange_h : ∃ g : dRange → Int → (Int → Option Res) → Option Res, g = laws_szRange_d := ⟨_, rfl⟩
def laws_szRange_k : dRange → Int → (Int → Option Res) → Option Res := Classical.choose laws_szRange_h
theorem laws_szRange_e : laws_szRange_k = laws_szRange_d := Classical.choose_spec laws_szRange_h

theorem laws_szRange_p (a0 : dRange) (a1 : Int) : Par (laws_szRange_k a0 a1) := by
  rw [laws_szRange_e]
  unfold laws_szRange_d
  exact (par_bif (par_ret _) (par_bif (par_ret _) (par_ret _)))

def laws_toVersion_d (a0 : dVersion) (k : (ByteArray × ByteArray × Bool × Int) → Option Res) : Option Res :=
  k (a0.1, a0.2.1, a0.2.2.1, a0.2.2.2)

theorem laws_toVersion_h : ∃ g : dVersion → ((ByteArray × ByteArray × Bool × Int) → Option Res) → Option Res, g = laws_toVersion_d := ⟨_, rfl⟩
def laws_toVersion_k : dVersion → ((ByteArray × ByteArray × Bool × Int) → Option Res) → Option Res := Classical.choose laws_toVersion_h
theorem laws_toVersion_e : laws_toVersion_k = laws_toVersion_d := Classical.choose_spec laws_toVersion_h

theorem laws_toVersion_p (a0 : dVersion) : Par (laws_toVersion_k a0) := by
  rw [laws_toVersion_e]
  unfold laws_toVersion_d
  exact (par_ret _)

def laws_toVersionS_b0 (x : ((List dVersion) × Int × (List dVersion))) (k : ((List dVersion) × Int × (List dVersion)) ⊕ ((List dVersion) × Int × (List dVersion)) → Option Res) : Option Res :=
    bif (decide (x.2.1 < (x.1.length : Int))) then
      if 0 ≤ x.2.1 ∧ x.2.1 < (x.1.length : Int) then
        laws_toVersion_k (rd (Ty.zero tVersion) x.1 x.2.1) (fun y2 =>
          if 0 ≤ x.2.1 ∧ x.2.1 < (x.2.2.length : Int) then
            k (.inl (x.1, (IntKind.wrap .i64 (x.2.1 + (1 : Int))), (x.2.2.set x.2.1.toNat y2)))
          else none)
      else none
    else
      k (.inr (x.1, x.2.1, x.2.2))

theorem laws_toVersionS_bp0 (x : ((List dVersion) × Int × (List dVersion))) : Par (laws_toVersionS_b0 x) := by
  unfold laws_toVersionS_b0
  exact (par_bif (par_ite (c := 0 ≤ x.2.1 ∧ x.2.1 < (x.1.length : Int)) ((laws_toVersion_p (rd (Ty.zero tVersion) x.1 x.2.1)).bind fun y2 => (par_ite (c := 0 ≤ x.2.1 ∧ x.2.1 < (x.2.2.length : Int)) (par_ret _) par_none)) par_none) (par_ret _))

def laws_toVersionS_d (a0 : (List dVersion)) (k : (List dVersion) → Option Res) : Option Res :=
  if 0 ≤ (a0.length : Int) ∧ (a0.length : Int) ≤ (a0.length : Int) ∧ (a0.length : Int) ≤ (VE.maxLen : Int) then
    loopK laws_toVersionS_b0 Fuel (a0, (0 : Int), (List.replicate (a0.length : Int).toNat (Ty.zero tVersion))) (fun z1 =>
      k z1.2.2)
  else none

theorem laws_toVersionS_h : ∃ g : (List dVersion) → ((List dVersion) → Option Res) → Option Res, g = laws_toVersionS_d := ⟨_, rfl⟩
def laws_toVersionS_k : (List dVersion) → ((List dVersion) → Option Res) → Option Res := Classical.choose laws_toVersionS_h
theorem laws_toVersionS_e : laws_toVersionS_k = laws_toVersionS_d := Classical.choose_spec laws_toVersionS_h

theorem laws_toVersionS_p (a0 : (List dVersion)) : Par (laws_toVersionS_k a0) := by
  rw [laws_toVersionS_e]
  unfold laws_toVersionS_d
  exact (par_ite (c := 0 ≤ (a0.length : Int) ∧ (a0.length : Int) ≤ (a0.length : Int) ∧ (a0.length : Int) ≤ (VE.maxLen : Int)) ((par_loop laws_toVersionS_bp0 Fuel (a0, (0 : Int), (List.replicate (a0.length : Int).toNat (Ty.zero tVersion)))).bind fun z1 => (par_ret _)) par_none)

def laws_toRange_d (a0 : dRange) (k : (ByteArray × ByteArray) → Option Res) : Option Res :=
  k (a0.1, a0.2)

theorem laws_toRange_h : ∃ g : dRange → ((ByteArray × ByteArray) → Option Res) → Option Res, g = laws_toRange_d := ⟨_, rfl⟩
def laws_toRange_k : dRange → ((ByteArray × ByteArray) → Option Res) → Option Res := Classical.choose laws_toRange_h
theorem laws_toRange_e : laws_toRange_k = laws_toRange_d := Classical.choose_spec laws_toRange_h

theorem laws_toRange_p (a0 : dRange) : Par (laws_toRange_k a0) := by
  rw [laws_toRange_e]
  unfold laws_toRange_d
  exact (par_ret _)

def spec_InRange_d (a0 : dRange) (a1 : ByteArray) (k : Bool → Option Res) : Option Res :=
  bif (!(strLess a1 a0.1)) then
    k ((strLess a1 a0.2) || (strEq a1 a0.2))
  else
    k false

theorem spec_InRange_h : ∃ g : dRange → ByteArray → (Bool → Option Res) → Option Res, g = spec_InRange_d := ⟨_, rfl⟩
def spec_InRange_k : dRange → ByteArray → (Bool → Option Res) → Option Res := Classical.choose spec_InRange_h
theorem spec_InRange_e : spec_InRange_k = spec_InRange_d := Classical.choose_spec spec_InRange_h

theorem spec_InRange_p (a0 : dRange) (a1 : ByteArray) : Par (spec_InRange_k a0 a1) := by
  rw [spec_InRange_e]
  unfold spec_InRange_d
  exact (par_bif (par_ret _) (par_ret _))

def spec_l06Keys_b2 (x : ((List dVersion) × Int × ByteArray × Int × ByteArray × ByteArray × (List ByteArray) × (List ByteArray))) (k : ((List dVersion) × Int × ByteArray × Int × ByteArray × ByteArray × (List ByteArray) × (List ByteArray)) ⊕ ((List dVersion) × Int × ByteArray × Int × ByteArray × ByteArray × (List ByteArray) × (List ByteArray)) → Option Res) : Option Res :=
    bif (decide (x.2.2.2.1 < (x.2.2.2.2.2.2.1.length : Int))) then
      if 0 ≤ x.2.2.2.1 ∧ x.2.2.2.1 < (x.2.2.2.2.2.2.1.length : Int) then
        bif (strLess (x.2.2.2.2.2.2.1.getD x.2.2.2.1.toNat (Ty.zero .str)) x.2.2.1) then
          if 0 ≤ x.2.2.2.1 ∧ x.2.2.2.1 < (x.2.2.2.2.2.2.1.length : Int) then
            if x.2.2.2.2.2.2.2.length + [(x.2.2.2.2.2.2.1.getD x.2.2.2.1.toNat (Ty.zero .str))].length ≤ VE.maxLen then
              k (.inl (x.1, x.2.1, x.2.2.1, (IntKind.wrap .i64 (x.2.2.2.1 + (1 : Int))), x.2.2.2.2.1, x.2.2.2.2.2.1, x.2.2.2.2.2.2.1, (x.2.2.2.2.2.2.2 ++ [(x.2.2.2.2.2.2.1.getD x.2.2.2.1.toNat (Ty.zero .str))])))
            else none
          else none
        else
          k (.inl (x.1, x.2.1, x.2.2.1, (IntKind.wrap .i64 (x.2.2.2.1 + (1 : Int))), x.2.2.2.2.1, x.2.2.2.2.2.1, x.2.2.2.2.2.2.1, x.2.2.2.2.2.2.2))
      else none
    else
      k (.inr (x.1, x.2.1, x.2.2.1, x.2.2.2.1, x.2.2.2.2.1, x.2.2.2.2.2.1, x.2.2.2.2.2.2.1, x.2.2.2.2.2.2.2))

theorem spec_l06Keys_bp2 (x : ((List dVersion) × Int × ByteArray × Int × ByteArray × ByteArray × (List ByteArray) × (List ByteArray))) : Par (spec_l06Keys_b2 x) := by
  unfold spec_l06Keys_b2
  exact (par_bif (par_ite (c := 0 ≤ x.2.2.2.1 ∧ x.2.2.2.1 < (x.2.2.2.2.2.2.1.length : Int)) (par_bif (par_ite (c := 0 ≤ x.2.2.2.1 ∧ x.2.2.2.1 < (x.2.2.2.2.2.2.1.length : Int)) (par_ite (c := x.2.2.2.2.2.2.2.length + [(x.2.2.2.2.2.2.1.getD x.2.2.2.1.toNat (Ty.zero .str))].length ≤ VE.maxLen) (par_ret _) par_none) par_none) (par_ret _)) par_none) (par_ret _))

def spec_l06Keys_b4 (x : ((List dVersion) × Int × ByteArray × Int × ByteArray × ByteArray × (List ByteArray) × (List ByteArray))) (k : ((List dVersion) × Int × ByteArray × Int × ByteArray × ByteArray × (List ByteArray) × (List ByteArray)) ⊕ ((List dVersion) × Int × ByteArray × Int × ByteArray × ByteArray × (List ByteArray) × (List ByteArray)) → Option Res) : Option Res :=
    bif (decide (x.2.2.2.1 < (x.2.2.2.2.2.2.1.length : Int))) then
      if 0 ≤ x.2.2.2.1 ∧ x.2.2.2.1 < (x.2.2.2.2.2.2.1.length : Int) then
        bif (!((strLess (x.2.2.2.2.2.2.1.getD x.2.2.2.1.toNat (Ty.zero .str)) x.2.2.1) || (strEq (x.2.2.2.2.2.2.1.getD x.2.2.2.1.toNat (Ty.zero .str)) x.2.2.1))) then
          if 0 ≤ x.2.2.2.1 ∧ x.2.2.2.1 < (x.2.2.2.2.2.2.1.length : Int) then
            if x.2.2.2.2.2.2.2.length + [(x.2.2.2.2.2.2.1.getD x.2.2.2.1.toNat (Ty.zero .str))].length ≤ VE.maxLen then
              k (.inl (x.1, x.2.1, x.2.2.1, (IntKind.wrap .i64 (x.2.2.2.1 + (1 : Int))), x.2.2.2.2.1, x.2.2.2.2.2.1, x.2.2.2.2.2.2.1, (x.2.2.2.2.2.2.2 ++ [(x.2.2.2.2.2.2.1.getD x.2.2.2.1.toNat (Ty.zero .str))])))
            else none
          else none
        else
          k (.inl (x.1, x.2.1, x.2.2.1, (IntKind.wrap .i64 (x.2.2.2.1 + (1 : Int))), x.2.2.2.2.1, x.2.2.2.2.2.1, x.2.2.2.2.2.2.1, x.2.2.2.2.2.2.2))
      else none
    else
      k (.inr (x.1, x.2.1, x.2.2.1, x.2.2.2.1, x.2.2.2.2.1, x.2.2.2.2.2.1, x.2.2.2.2.2.2.1, x.2.2.2.2.2.2.2))

theorem spec_l06Keys_bp4 (x : ((List dVersion) × Int × ByteArray × Int × ByteArray × ByteArray × (List ByteArray) × (List ByteArray))) : Par (spec_l06Keys_b4 x) := by
  unfold spec_l06Keys_b4
  exact (par_bif (par_ite (c := 0 ≤ x.2.2.2.1 ∧ x.2.2.2.1 < (x.2.2.2.2.2.2.1.length : Int)) (par_bif (par_ite (c := 0 ≤ x.2.2.2.1 ∧ x.2.2.2.1 < (x.2.2.2.2.2.2.1.length : Int)) (par_ite (c := x.2.2.2.2.2.2.2.length + [(x.2.2.2.2.2.2.1.getD x.2.2.2.1.toNat (Ty.zero .str))].length ≤ VE.maxLen) (par_ret _) par_none) par_none) (par_ret _)) par_none) (par_ret _))

def spec_l06Keys_b0 (x : ((List dVersion) × Int × ByteArray × ByteArray × (List ByteArray))) (k : ((List dVersion) × Int × ByteArray × ByteArray × (List ByteArray)) ⊕ ((List dVersion) × Int × ByteArray × ByteArray × (List ByteArray)) → Option Res) : Option Res :=
    bif (decide (x.2.1 < (x.1.length : Int))) then
      if 0 ≤ x.2.1 ∧ x.2.1 < (x.1.length : Int) then
        spec_InRange_k (x.2.2.1, x.2.2.2.1) ((rd (Ty.zero tVersion) x.1 x.2.1).1) (fun y2 =>
          bif (!y2) then
            k (.inl (x.1, (IntKind.wrap .i64 (x.2.1 + (1 : Int))), x.2.2.1, x.2.2.2.1, x.2.2.2.2))
          else
            loopK spec_l06Keys_b2 Fuel (x.1, x.2.1, (rd (Ty.zero tVersion) x.1 x.2.1).1, (0 : Int), x.2.2.1, x.2.2.2.1, x.2.2.2.2, ([] : List ByteArray)) (fun z3 =>
              if z3.2.2.2.2.2.2.2.length + [z3.2.2.1].length ≤ VE.maxLen then
                loopK spec_l06Keys_b4 Fuel (z3.1, z3.2.1, z3.2.2.1, (0 : Int), z3.2.2.2.2.1, z3.2.2.2.2.2.1, z3.2.2.2.2.2.2.1, (z3.2.2.2.2.2.2.2 ++ [z3.2.2.1])) (fun z4 =>
                  k (.inl (z4.1, (IntKind.wrap .i64 (z4.2.1 + (1 : Int))), z4.2.2.2.2.1, z4.2.2.2.2.2.1, z4.2.2.2.2.2.2.2)))
              else none))
      else none
    else
      k (.inr (x.1, x.2.1, x.2.2.1, x.2.2.2.1, x.2.2.2.2))

theorem spec_l06Keys_bp0 (x : ((List dVersion) × Int × ByteArray × ByteArray × (List ByteArray))) : Par (spec_l06Keys_b0 x) := by
  unfold spec_l06Keys_b0
  exact (par_bif (par_ite (c := 0 ≤ x.2.1 ∧ x.2.1 < (x.1.length : Int)) ((spec_InRange_p (x.2.2.1, x.2.2.2.1) ((rd (Ty.zero tVersion) x.1 x.2.1).1)).bind fun y2 => (par_bif (par_ret _) ((par_loop spec_l06Keys_bp2 Fuel (x.1, x.2.1, (rd (Ty.zero tVersion) x.1 x.2.1).1, (0 : Int), x.2.2.1, x.2.2.2.1, x.2.2.2.2, ([] : List ByteArray))).bind fun z3 => (par_ite (c := z3.2.2.2.2.2.2.2.length + [z3.2.2.1].length ≤ VE.maxLen) ((par_loop spec_l06Keys_bp4 Fuel (z3.1, z3.2.1, z3.2.2.1, (0 : Int), z3.2.2.2.2.1, z3.2.2.2.2.2.1, z3.2.2.2.2.2.2.1, (z3.2.2.2.2.2.2.2 ++ [z3.2.2.1]))).bind fun z4 => (par_ret _)) par_none)))) par_none) (par_ret _))

def spec_l06Keys_d (a0 : (List dVersion)) (a1 : dRange) (k : (List ByteArray) → Option Res) : Option Res :=
  loopK spec_l06Keys_b0 Fuel (a0, (0 : Int), a1.1, a1.2, ([] : List ByteArray)) (fun z1 =>
    k z1.2.2.2.2)

theorem spec_l06Keys_h : ∃ g : (List dVersion) → dRange → ((List ByteArray) → Option Res) → Option Res, g = spec_l06Keys_d := ⟨_, rfl⟩
def spec_l06Keys_k : (List dVersion) → dRange → ((List ByteArray) → Option Res) → Option Res := Classical.choose spec_l06Keys_h
theorem spec_l06Keys_e : spec_l06Keys_k = spec_l06Keys_d := Classical.choose_spec spec_l06Keys_h

theorem spec_l06Keys_p (a0 : (List dVersion)) (a1 : dRange) : Par (spec_l06Keys_k a0 a1) := by
  rw [spec_l06Keys_e]
  unfold spec_l06Keys_d
  exact ((par_loop spec_l06Keys_bp0 Fuel (a0, (0 : Int), a1.1, a1.2, ([] : List ByteArray))).bind fun z1 => (par_ret _))

def spec_l06At_b0 (x : ((List dVersion) × ByteArray × Int × Int × Int)) (k : ((List dVersion) × ByteArray × Int × Int × Int) ⊕ ((List dVersion) × ByteArray × Int × Int × Int) → Option Res) : Option Res :=
    bif (decide (x.2.2.2.2 < (x.1.length : Int))) then
      if 0 ≤ x.2.2.2.2 ∧ x.2.2.2.2 < (x.1.length : Int) then
        bif (strEq ((rd (Ty.zero tVersion) x.1 x.2.2.2.2).1) x.2.1) then
          if 0 ≤ x.2.2.2.2 ∧ x.2.2.2.2 < (x.1.length : Int) then
            bif (decide ((rd (Ty.zero tVersion) x.1 x.2.2.2.2).2.2.2 ≤ x.2.2.1)) then
              bif (decide (x.2.2.2.1 < (0 : Int))) then
                k (.inl (x.1, x.2.1, x.2.2.1, x.2.2.2.2, (IntKind.wrap .i64 (x.2.2.2.2 + (1 : Int)))))
              else
                if 0 ≤ x.2.2.2.2 ∧ x.2.2.2.2 < (x.1.length : Int) then
                  if 0 ≤ x.2.2.2.1 ∧ x.2.2.2.1 < (x.1.length : Int) then
                    bif (decide ((rd (Ty.zero tVersion) x.1 x.2.2.2.2).2.2.2 > (rd (Ty.zero tVersion) x.1 x.2.2.2.1).2.2.2)) then
                      k (.inl (x.1, x.2.1, x.2.2.1, x.2.2.2.2, (IntKind.wrap .i64 (x.2.2.2.2 + (1 : Int)))))
                    else
                      k (.inl (x.1, x.2.1, x.2.2.1, x.2.2.2.1, (IntKind.wrap .i64 (x.2.2.2.2 + (1 : Int)))))
                  else none
                else none
            else
              k (.inl (x.1, x.2.1, x.2.2.1, x.2.2.2.1, (IntKind.wrap .i64 (x.2.2.2.2 + (1 : Int)))))
          else none
        else
          k (.inl (x.1, x.2.1, x.2.2.1, x.2.2.2.1, (IntKind.wrap .i64 (x.2.2.2.2 + (1 : Int)))))
      else none
    else
      k (.inr (x.1, x.2.1, x.2.2.1, x.2.2.2.1, x.2.2.2.2))

theorem spec_l06At_bp0 (x : ((List dVersion) × ByteArray × Int × Int × Int)) : Par (spec_l06At_b0 x) := by
  unfold spec_l06At_b0
  exact (par_bif (par_ite (c := 0 ≤ x.2.2.2.2 ∧ x.2.2.2.2 < (x.1.length : Int)) (par_bif (par_ite (c := 0 ≤ x.2.2.2.2 ∧ x.2.2.2.2 < (x.1.length : Int)) (par_bif (par_bif (par_ret _) (par_ite (c := 0 ≤ x.2.2.2.2 ∧ x.2.2.2.2 < (x.1.length : Int)) (par_ite (c := 0 ≤ x.2.2.2.1 ∧ x.2.2.2.1 < (x.1.length : Int)) (par_bif (par_ret _) (par_ret _)) par_none) par_none)) (par_ret _)) par_none) (par_ret _)) par_none) (par_ret _))

def spec_l06At_d (a0 : (List dVersion)) (a1 : ByteArray) (a2 : Int) (k : Int → Option Res) : Option Res :=
  loopK spec_l06At_b0 Fuel (a0, a1, a2, (-1 : Int), (0 : Int)) (fun z1 =>
    k z1.2.2.2.1)

theorem spec_l06At_h : ∃ g : (List dVersion) → ByteArray → Int → (Int → Option Res) → Option Res, g = spec_l06At_d := ⟨_, rfl⟩
def spec_l06At_k : (List dVersion) → ByteArray → Int → (Int → Option Res) → Option Res := Classical.choose spec_l06At_h
theorem spec_l06At_e : spec_l06At_k = spec_l06At_d := Classical.choose_spec spec_l06At_h

theorem spec_l06At_p (a0 : (List dVersion)) (a1 : ByteArray) (a2 : Int) : Par (spec_l06At_k a0 a1 a2) := by
  rw [spec_l06At_e]
  unfold spec_l06At_d
  exact ((par_loop spec_l06At_bp0 Fuel (a0, a1, a2, (-1 : Int), (0 : Int))).bind fun z1 => (par_ret _))

def spec_SeenAt_d (a0 : (List dVersion)) (a1 : ByteArray) (a2 : Int) (k : (ByteArray × Bool) → Option Res) : Option Res :=
  spec_l06At_k a0 a1 a2 (fun y1 =>
    bif (decide (y1 < (0 : Int))) then
      k ((⟨#[]⟩ : ByteArray), false)
    else
      if 0 ≤ y1 ∧ y1 < (a0.length : Int) then
        bif (rd (Ty.zero tVersion) a0 y1).2.2.1 then
          k ((⟨#[]⟩ : ByteArray), false)
        else
          if 0 ≤ y1 ∧ y1 < (a0.length : Int) then
            k ((rd (Ty.zero tVersion) a0 y1).2.1, true)
          else none
      else none)

theorem spec_SeenAt_h : ∃ g : (List dVersion) → ByteArray → Int → ((ByteArray × Bool) → Option Res) → Option Res, g = spec_SeenAt_d := ⟨_, rfl⟩
def spec_SeenAt_k : (List dVersion) → ByteArray → Int → ((ByteArray × Bool) → Option Res) → Option Res := Classical.choose spec_SeenAt_h
theorem spec_SeenAt_e : spec_SeenAt_k = spec_SeenAt_d := Classical.choose_spec spec_SeenAt_h

theorem spec_SeenAt_p (a0 : (List dVersion)) (a1 : ByteArray) (a2 : Int) : Par (spec_SeenAt_k a0 a1 a2) := by
  rw [spec_SeenAt_e]
  unfold spec_SeenAt_d
  exact ((spec_l06At_p a0 a1 a2).bind fun y1 => (par_bif (par_ret _) (par_ite (c := 0 ≤ y1 ∧ y1 < (a0.length : Int)) (par_bif (par_ret _) (par_ite (c := 0 ≤ y1 ∧ y1 < (a0.length : Int)) (par_ret _) par_none)) par_none)))

def spec_ScanAt_b0 (x : ((List dVersion) × Int × Int × (List dRange) × (List ByteArray))) (k : ((List dVersion) × Int × Int × (List dRange) × (List ByteArray)) ⊕ ((List dVersion) × Int × Int × (List dRange) × (List ByteArray)) → Option Res) : Option Res :=
    bif (decide (x.2.2.1 < (x.2.2.2.2.length : Int))) then
      if 0 ≤ x.2.2.1 ∧ x.2.2.1 < (x.2.2.2.2.length : Int) then
        spec_SeenAt_k x.1 (x.2.2.2.2.getD x.2.2.1.toNat (Ty.zero .str)) x.2.1 (fun y3 =>
          bif y3.2 then
            if 0 ≤ x.2.2.1 ∧ x.2.2.1 < (x.2.2.2.2.length : Int) then
              if x.2.2.2.1.length + [((x.2.2.2.2.getD x.2.2.1.toNat (Ty.zero .str)), y3.1)].length ≤ VE.maxLen then
                k (.inl (x.1, x.2.1, (IntKind.wrap .i64 (x.2.2.1 + (1 : Int))), (x.2.2.2.1 ++ [((x.2.2.2.2.getD x.2.2.1.toNat (Ty.zero .str)), y3.1)]), x.2.2.2.2))
              else none
            else none
          else
            k (.inl (x.1, x.2.1, (IntKind.wrap .i64 (x.2.2.1 + (1 : Int))), x.2.2.2.1, x.2.2.2.2)))
      else none
    else
      k (.inr (x.1, x.2.1, x.2.2.1, x.2.2.2.1, x.2.2.2.2))

theorem spec_ScanAt_bp0 (x : ((List dVersion) × Int × Int × (List dRange) × (List ByteArray))) : Par (spec_ScanAt_b0 x) := by
  unfold spec_ScanAt_b0
  exact (par_bif (par_ite (c := 0 ≤ x.2.2.1 ∧ x.2.2.1 < (x.2.2.2.2.length : Int)) ((spec_SeenAt_p x.1 (x.2.2.2.2.getD x.2.2.1.toNat (Ty.zero .str)) x.2.1).bind fun y3 => (par_bif (par_ite (c := 0 ≤ x.2.2.1 ∧ x.2.2.1 < (x.2.2.2.2.length : Int)) (par_ite (c := x.2.2.2.1.length + [((x.2.2.2.2.getD x.2.2.1.toNat (Ty.zero .str)), y3.1)].length ≤ VE.maxLen) (par_ret _) par_none) par_none) (par_ret _))) par_none) (par_ret _))

def spec_ScanAt_d (a0 : (List dVersion)) (a1 : dRange) (a2 : Int) (k : (List dRange) → Option Res) : Option Res :=
  spec_l06Keys_k a0 a1 (fun y1 =>
    loopK spec_ScanAt_b0 Fuel (a0, a2, (0 : Int), ([] : List dRange), y1) (fun z2 =>
      k z2.2.2.2.1))

theorem spec_ScanAt_h : ∃ g : (List dVersion) → dRange → Int → ((List dRange) → Option Res) → Option Res, g = spec_ScanAt_d := ⟨_, rfl⟩
def spec_ScanAt_k : (List dVersion) → dRange → Int → ((List dRange) → Option Res) → Option Res := Classical.choose spec_ScanAt_h
theorem spec_ScanAt_e : spec_ScanAt_k = spec_ScanAt_d := Classical.choose_spec spec_ScanAt_h

theorem spec_ScanAt_p (a0 : (List dVersion)) (a1 : dRange) (a2 : Int) : Par (spec_ScanAt_k a0 a1 a2) := by
  rw [spec_ScanAt_e]
  unfold spec_ScanAt_d
  exact ((spec_l06Keys_p a0 a1).bind fun y1 => ((par_loop spec_ScanAt_bp0 Fuel (a0, a2, (0 : Int), ([] : List dRange), y1)).bind fun z2 => (par_ret _)))

def slices_Sort_string_vo_d (a0 : (List ByteArray)) (k : (List ByteArray) → Option Res) : Option Res :=
  if a0.length ≤ 1000000000 then
    k (sortL a0)
  else none

theorem slices_Sort_string_vo_h : ∃ g : (List ByteArray) → ((List ByteArray) → Option Res) → Option Res, g = slices_Sort_string_vo_d := ⟨_, rfl⟩
def slices_Sort_string_vo_k : (List ByteArray) → ((List ByteArray) → Option Res) → Option Res := Classical.choose slices_Sort_string_vo_h
theorem slices_Sort_string_vo_e : slices_Sort_string_vo_k = slices_Sort_string_vo_d := Classical.choose_spec slices_Sort_string_vo_h

theorem slices_Sort_string_vo_p (a0 : (List ByteArray)) : Par (slices_Sort_string_vo_k a0) := by
  rw [slices_Sort_string_vo_e]
  unfold slices_Sort_string_vo_d
  exact (par_ite (c := a0.length ≤ 1000000000) (par_ret _) par_none)

def slices_Compact_string_vo_b2 (x : (Int × Nat × Int × (List ByteArray))) (k : (Int × Nat × Int × (List ByteArray)) ⊕ (Int × Nat × Int × (List ByteArray)) → Option Res) : Option Res :=
    bif (decide (x.2.2.1 < ((x.2.2.2.length : Int) - ((x.2.1 : Nat) : Int)))) then
      if 0 ≤ x.2.2.1 ∧ x.2.2.1 < (x.2.2.2.length : Int) - ((x.2.1 : Nat) : Int) then
        if 0 ≤ (IntKind.wrap .i64 (x.2.2.1 - (1 : Int))) ∧ (IntKind.wrap .i64 (x.2.2.1 - (1 : Int))) < (x.2.2.2.length : Int) - ((x.2.1 : Nat) : Int) then
          bif (!(strEq (x.2.2.2.getD (x.2.1 + x.2.2.1.toNat) (Ty.zero .str)) (x.2.2.2.getD (x.2.1 + (IntKind.wrap .i64 (x.2.2.1 - (1 : Int))).toNat) (Ty.zero .str)))) then
            if 0 ≤ x.2.2.1 ∧ x.2.2.1 < (x.2.2.2.length : Int) - ((x.2.1 : Nat) : Int) then
              if 0 ≤ x.1 ∧ x.1 < (x.2.2.2.length : Int) then
                k (.inl ((IntKind.wrap .i64 (x.1 + (1 : Int))), x.2.1, (IntKind.wrap .i64 (x.2.2.1 + (1 : Int))), (x.2.2.2.set x.1.toNat (x.2.2.2.getD (x.2.1 + x.2.2.1.toNat) (Ty.zero .str)))))
              else none
            else none
          else
            k (.inl (x.1, x.2.1, (IntKind.wrap .i64 (x.2.2.1 + (1 : Int))), x.2.2.2))
        else none
      else none
    else
      k (.inr (x.1, x.2.1, x.2.2.1, x.2.2.2))

theorem slices_Compact_string_vo_bp2 (x : (Int × Nat × Int × (List ByteArray))) : Par (slices_Compact_string_vo_b2 x) := by
  unfold slices_Compact_string_vo_b2
  exact (par_bif (par_ite (c := 0 ≤ x.2.2.1 ∧ x.2.2.1 < (x.2.2.2.length : Int) - ((x.2.1 : Nat) : Int)) (par_ite (c := 0 ≤ (IntKind.wrap .i64 (x.2.2.1 - (1 : Int))) ∧ (IntKind.wrap .i64 (x.2.2.1 - (1 : Int))) < (x.2.2.2.length : Int) - ((x.2.1 : Nat) : Int)) (par_bif (par_ite (c := 0 ≤ x.2.2.1 ∧ x.2.2.1 < (x.2.2.2.length : Int) - ((x.2.1 : Nat) : Int)) (par_ite (c := 0 ≤ x.1 ∧ x.1 < (x.2.2.2.length : Int)) (par_ret _) par_none) par_none) (par_ret _)) par_none) par_none) (par_ret _))

def slices_Compact_string_vo_b0 (x : (Int × (List ByteArray) × (List ByteArray))) (k : (Int × (List ByteArray) × (List ByteArray)) ⊕ ((Int × (List ByteArray) × (List ByteArray)) ⊕ (Int × (List ByteArray))) → Option Res) : Option Res :=
    bif (decide (x.1 < (x.2.1.length : Int))) then
      if 0 ≤ x.1 ∧ x.1 < (x.2.1.length : Int) then
        if 0 ≤ (IntKind.wrap .i64 (x.1 - (1 : Int))) ∧ (IntKind.wrap .i64 (x.1 - (1 : Int))) < (x.2.1.length : Int) then
          bif (strEq (x.2.1.getD x.1.toNat (Ty.zero .str)) (x.2.1.getD (IntKind.wrap .i64 (x.1 - (1 : Int))).toNat (Ty.zero .str))) then
            if 0 ≤ x.1 ∧ x.1 ≤ (x.2.1.length : Int) then
              loopK slices_Compact_string_vo_b2 Fuel (x.1, x.1.toNat, (1 : Int), x.2.1) (fun z3 =>
                if 0 ≤ z3.1 ∧ z3.1 ≤ (z3.2.2.2.length : Int) then
                  if 0 ≤ z3.1 ∧ z3.1 ≤ ((z3.2.2.2.take z3.1.toNat ++ List.replicate (z3.2.2.2.length - z3.1.toNat) (Ty.zero .str)).length : Int) then
                    k (.inr (.inr (z3.1, ((z3.2.2.2.take z3.1.toNat ++ List.replicate (z3.2.2.2.length - z3.1.toNat) (Ty.zero .str)).take z3.1.toNat))))
                  else none
                else none)
            else none
          else
            k (.inl ((IntKind.wrap .i64 (x.1 + (1 : Int))), x.2.1, x.2.2))
        else none
      else none
    else
      k (.inr (.inl (x.1, x.2.1, x.2.2)))

theorem slices_Compact_string_vo_bp0 (x : (Int × (List ByteArray) × (List ByteArray))) : Par (slices_Compact_string_vo_b0 x) := by
  unfold slices_Compact_string_vo_b0
  exact (par_bif (par_ite (c := 0 ≤ x.1 ∧ x.1 < (x.2.1.length : Int)) (par_ite (c := 0 ≤ (IntKind.wrap .i64 (x.1 - (1 : Int))) ∧ (IntKind.wrap .i64 (x.1 - (1 : Int))) < (x.2.1.length : Int)) (par_bif (par_ite (c := 0 ≤ x.1 ∧ x.1 ≤ (x.2.1.length : Int)) ((par_loop slices_Compact_string_vo_bp2 Fuel (x.1, x.1.toNat, (1 : Int), x.2.1)).bind fun z3 => (par_ite (c := 0 ≤ z3.1 ∧ z3.1 ≤ (z3.2.2.2.length : Int)) (par_ite (c := 0 ≤ z3.1 ∧ z3.1 ≤ ((z3.2.2.2.take z3.1.toNat ++ List.replicate (z3.2.2.2.length - z3.1.toNat) (Ty.zero .str)).length : Int)) (par_ret _) par_none) par_none)) par_none) (par_ret _)) par_none) par_none) (par_ret _))

def slices_Compact_string_vo_d (a0 : (List ByteArray)) (k : ((List ByteArray) ⊕ (List ByteArray)) → Option Res) : Option Res :=
  bif (decide ((a0.length : Int) < (2 : Int))) then
    k (.inl a0)
  else
    loopK slices_Compact_string_vo_b0 Fuel ((1 : Int), a0, ([] : List ByteArray)) (Sum.elim (fun z1 =>
      k (.inl z1.2.1)) (fun z2 =>
      k (.inr z2.2)))

theorem slices_Compact_string_vo_h : ∃ g : (List ByteArray) → (((List ByteArray) ⊕ (List ByteArray)) → Option Res) → Option Res, g = slices_Compact_string_vo_d := ⟨_, rfl⟩
def slices_Compact_string_vo_k : (List ByteArray) → (((List ByteArray) ⊕ (List ByteArray)) → Option Res) → Option Res := Classical.choose slices_Compact_string_vo_h
theorem slices_Compact_string_vo_e : slices_Compact_string_vo_k = slices_Compact_string_vo_d := Classical.choose_spec slices_Compact_string_vo_h

theorem slices_Compact_string_vo_p (a0 : (List ByteArray)) : Par (slices_Compact_string_vo_k a0) := by
  rw [slices_Compact_string_vo_e]
  unfold slices_Compact_string_vo_d
  exact (par_bif (par_ret _) ((par_loop slices_Compact_string_vo_bp0 Fuel ((1 : Int), a0, ([] : List ByteArray))).bind2 (fun z1 => (par_ret _)) (fun z2 => (par_ret _))))

def impl_keysOf_b0 (x : ((List dVersion) × Int × Int × (List ByteArray))) (k : ((List dVersion) × Int × Int × (List ByteArray)) ⊕ ((List dVersion) × Int × Int × (List ByteArray)) → Option Res) : Option Res :=
    bif (decide (x.2.2.1 < x.2.1)) then
      if 0 ≤ x.2.2.1 ∧ x.2.2.1 < (x.1.length : Int) then
        if x.2.2.2.length + [(rd (Ty.zero tVersion) x.1 x.2.2.1).1].length ≤ VE.maxLen then
          k (.inl (x.1, x.2.1, (IntKind.wrap .i64 (x.2.2.1 + (1 : Int))), (x.2.2.2 ++ [(rd (Ty.zero tVersion) x.1 x.2.2.1).1])))
        else none
      else none
    else
      k (.inr (x.1, x.2.1, x.2.2.1, x.2.2.2))

theorem impl_keysOf_bp0 (x : ((List dVersion) × Int × Int × (List ByteArray))) : Par (impl_keysOf_b0 x) := by
  unfold impl_keysOf_b0
  exact (par_bif (par_ite (c := 0 ≤ x.2.2.1 ∧ x.2.2.1 < (x.1.length : Int)) (par_ite (c := x.2.2.2.length + [(rd (Ty.zero tVersion) x.1 x.2.2.1).1].length ≤ VE.maxLen) (par_ret _) par_none) par_none) (par_ret _))

def impl_keysOf_d (a0 : (List dVersion)) (k : (List ByteArray) → Option Res) : Option Res :=
  loopK impl_keysOf_b0 Fuel (a0, (a0.length : Int), (0 : Int), ([] : List ByteArray)) (fun z1 =>
    slices_Sort_string_vo_k z1.2.2.2 (fun y2 =>
      slices_Compact_string_vo_k y2 (Sum.elim (fun y3 =>
        k y3) (fun y4 =>
        k y4))))

theorem impl_keysOf_h : ∃ g : (List dVersion) → ((List ByteArray) → Option Res) → Option Res, g = impl_keysOf_d := ⟨_, rfl⟩
def impl_keysOf_k : (List dVersion) → ((List ByteArray) → Option Res) → Option Res := Classical.choose impl_keysOf_h
theorem impl_keysOf_e : impl_keysOf_k = impl_keysOf_d := Classical.choose_spec impl_keysOf_h

theorem impl_keysOf_p (a0 : (List dVersion)) : Par (impl_keysOf_k a0) := by
  rw [impl_keysOf_e]
  unfold impl_keysOf_d
  exact ((par_loop impl_keysOf_bp0 Fuel (a0, (a0.length : Int), (0 : Int), ([] : List ByteArray))).bind fun z1 => ((slices_Sort_string_vo_p z1.2.2.2).bind fun y2 => ((slices_Compact_string_vo_p y2).bind2 (fun y3 => (par_ret _)) (fun y4 => (par_ret _)))))

def impl_lastAt_b0 (x : ((List dVersion) × ByteArray × Int × Int × (List dVersion) × Int × Int)) (k : ((List dVersion) × ByteArray × Int × Int × (List dVersion) × Int × Int) ⊕ ((List dVersion) × ByteArray × Int × Int × (List dVersion) × Int × Int) → Option Res) : Option Res :=
    bif (decide (x.2.2.2.2.2.2 < x.2.2.2.2.2.1)) then
      if 0 ≤ x.2.2.2.2.2.2 ∧ x.2.2.2.2.2.2 < (x.2.2.2.2.1.length : Int) then
        bif (strEq ((rd (Ty.zero tVersion) x.2.2.2.2.1 x.2.2.2.2.2.2).1) x.2.1) then
          bif (decide ((rd (Ty.zero tVersion) x.2.2.2.2.1 x.2.2.2.2.2.2).2.2.2 ≤ x.2.2.1)) then
            bif (decide (x.2.2.2.1 < (0 : Int))) then
              k (.inl (x.1, x.2.1, x.2.2.1, x.2.2.2.2.2.2, x.2.2.2.2.1, x.2.2.2.2.2.1, (IntKind.wrap .i64 (x.2.2.2.2.2.2 + (1 : Int)))))
            else
              if 0 ≤ x.2.2.2.1 ∧ x.2.2.2.1 < (x.1.length : Int) then
                bif (decide ((rd (Ty.zero tVersion) x.2.2.2.2.1 x.2.2.2.2.2.2).2.2.2 > (rd (Ty.zero tVersion) x.1 x.2.2.2.1).2.2.2)) then
                  k (.inl (x.1, x.2.1, x.2.2.1, x.2.2.2.2.2.2, x.2.2.2.2.1, x.2.2.2.2.2.1, (IntKind.wrap .i64 (x.2.2.2.2.2.2 + (1 : Int)))))
                else
                  k (.inl (x.1, x.2.1, x.2.2.1, x.2.2.2.1, x.2.2.2.2.1, x.2.2.2.2.2.1, (IntKind.wrap .i64 (x.2.2.2.2.2.2 + (1 : Int)))))
              else none
          else
            k (.inl (x.1, x.2.1, x.2.2.1, x.2.2.2.1, x.2.2.2.2.1, x.2.2.2.2.2.1, (IntKind.wrap .i64 (x.2.2.2.2.2.2 + (1 : Int)))))
        else
          k (.inl (x.1, x.2.1, x.2.2.1, x.2.2.2.1, x.2.2.2.2.1, x.2.2.2.2.2.1, (IntKind.wrap .i64 (x.2.2.2.2.2.2 + (1 : Int)))))
      else none
    else
      k (.inr (x.1, x.2.1, x.2.2.1, x.2.2.2.1, x.2.2.2.2.1, x.2.2.2.2.2.1, x.2.2.2.2.2.2))

theorem impl_lastAt_bp0 (x : ((List dVersion) × ByteArray × Int × Int × (List dVersion) × Int × Int)) : Par (impl_lastAt_b0 x) := by
  unfold impl_lastAt_b0
  exact (par_bif (par_ite (c := 0 ≤ x.2.2.2.2.2.2 ∧ x.2.2.2.2.2.2 < (x.2.2.2.2.1.length : Int)) (par_bif (par_bif (par_bif (par_ret _) (par_ite (c := 0 ≤ x.2.2.2.1 ∧ x.2.2.2.1 < (x.1.length : Int)) (par_bif (par_ret _) (par_ret _)) par_none)) (par_ret _)) (par_ret _)) par_none) (par_ret _))

def impl_lastAt_d (a0 : (List dVersion)) (a1 : ByteArray) (a2 : Int) (k : Int → Option Res) : Option Res :=
  loopK impl_lastAt_b0 Fuel (a0, a1, a2, (-1 : Int), a0, (a0.length : Int), (0 : Int)) (fun z1 =>
    k z1.2.2.2.1)

theorem impl_lastAt_h : ∃ g : (List dVersion) → ByteArray → Int → (Int → Option Res) → Option Res, g = impl_lastAt_d := ⟨_, rfl⟩
def impl_lastAt_k : (List dVersion) → ByteArray → Int → (Int → Option Res) → Option Res := Classical.choose impl_lastAt_h
theorem impl_lastAt_e : impl_lastAt_k = impl_lastAt_d := Classical.choose_spec impl_lastAt_h

theorem impl_lastAt_p (a0 : (List dVersion)) (a1 : ByteArray) (a2 : Int) : Par (impl_lastAt_k a0 a1 a2) := by
  rw [impl_lastAt_e]
  unfold impl_lastAt_d
  exact ((par_loop impl_lastAt_bp0 Fuel (a0, a1, a2, (-1 : Int), a0, (a0.length : Int), (0 : Int))).bind fun z1 => (par_ret _))

def impl_SeenAt_d (a0 : (List dVersion)) (a1 : ByteArray) (a2 : Int) (k : (ByteArray × Bool) → Option Res) : Option Res :=
  impl_lastAt_k a0 a1 a2 (fun y1 =>
    bif (decide (y1 < (0 : Int))) then
      k ((⟨#[]⟩ : ByteArray), false)
    else
      if 0 ≤ y1 ∧ y1 < (a0.length : Int) then
        bif (rd (Ty.zero tVersion) a0 y1).2.2.1 then
          k ((⟨#[]⟩ : ByteArray), false)
        else
          if 0 ≤ y1 ∧ y1 < (a0.length : Int) then
            k ((rd (Ty.zero tVersion) a0 y1).2.1, true)
          else none
      else none)

theorem impl_SeenAt_h : ∃ g : (List dVersion) → ByteArray → Int → ((ByteArray × Bool) → Option Res) → Option Res, g = impl_SeenAt_d := ⟨_, rfl⟩
def impl_SeenAt_k : (List dVersion) → ByteArray → Int → ((ByteArray × Bool) → Option Res) → Option Res := Classical.choose impl_SeenAt_h
theorem impl_SeenAt_e : impl_SeenAt_k = impl_SeenAt_d := Classical.choose_spec impl_SeenAt_h

theorem impl_SeenAt_p (a0 : (List dVersion)) (a1 : ByteArray) (a2 : Int) : Par (impl_SeenAt_k a0 a1 a2) := by
  rw [impl_SeenAt_e]
  unfold impl_SeenAt_d
  exact ((impl_lastAt_p a0 a1 a2).bind fun y1 => (par_bif (par_ret _) (par_ite (c := 0 ≤ y1 ∧ y1 < (a0.length : Int)) (par_bif (par_ret _) (par_ite (c := 0 ≤ y1 ∧ y1 < (a0.length : Int)) (par_ret _) par_none)) par_none)))

def impl_InRange_d (a0 : dRange) (a1 : ByteArray) (k : Bool → Option Res) : Option Res :=
  bif (!(strLess a1 a0.1)) then
    k ((strLess a1 a0.2) || (strEq a1 a0.2))
  else
    k false

theorem impl_InRange_h : ∃ g : dRange → ByteArray → (Bool → Option Res) → Option Res, g = impl_InRange_d := ⟨_, rfl⟩
def impl_InRange_k : dRange → ByteArray → (Bool → Option Res) → Option Res := Classical.choose impl_InRange_h
theorem impl_InRange_e : impl_InRange_k = impl_InRange_d := Classical.choose_spec impl_InRange_h

theorem impl_InRange_p (a0 : dRange) (a1 : ByteArray) : Par (impl_InRange_k a0 a1) := by
  rw [impl_InRange_e]
  unfold impl_InRange_d
  exact (par_bif (par_ret _) (par_ret _))

def impl_ScanAt_b0 (x : ((List dVersion) × Int × Int × Int × ByteArray × ByteArray × (List dRange) × (List ByteArray))) (k : ((List dVersion) × Int × Int × Int × ByteArray × ByteArray × (List dRange) × (List ByteArray)) ⊕ ((List dVersion) × Int × Int × Int × ByteArray × ByteArray × (List dRange) × (List ByteArray)) → Option Res) : Option Res :=
    bif (decide (x.2.2.2.1 < x.2.2.1)) then
      if 0 ≤ x.2.2.2.1 ∧ x.2.2.2.1 < (x.2.2.2.2.2.2.2.length : Int) then
        impl_SeenAt_k x.1 (x.2.2.2.2.2.2.2.getD x.2.2.2.1.toNat (Ty.zero .str)) x.2.1 (fun y3 =>
          bif y3.2 then
            impl_InRange_k (x.2.2.2.2.1, x.2.2.2.2.2.1) (x.2.2.2.2.2.2.2.getD x.2.2.2.1.toNat (Ty.zero .str)) (fun y4 =>
              bif y4 then
                if x.2.2.2.2.2.2.1.length + [((x.2.2.2.2.2.2.2.getD x.2.2.2.1.toNat (Ty.zero .str)), y3.1)].length ≤ VE.maxLen then
                  k (.inl (x.1, x.2.1, x.2.2.1, (IntKind.wrap .i64 (x.2.2.2.1 + (1 : Int))), x.2.2.2.2.1, x.2.2.2.2.2.1, (x.2.2.2.2.2.2.1 ++ [((x.2.2.2.2.2.2.2.getD x.2.2.2.1.toNat (Ty.zero .str)), y3.1)]), x.2.2.2.2.2.2.2))
                else none
              else
                k (.inl (x.1, x.2.1, x.2.2.1, (IntKind.wrap .i64 (x.2.2.2.1 + (1 : Int))), x.2.2.2.2.1, x.2.2.2.2.2.1, x.2.2.2.2.2.2.1, x.2.2.2.2.2.2.2)))
          else
            k (.inl (x.1, x.2.1, x.2.2.1, (IntKind.wrap .i64 (x.2.2.2.1 + (1 : Int))), x.2.2.2.2.1, x.2.2.2.2.2.1, x.2.2.2.2.2.2.1, x.2.2.2.2.2.2.2)))
      else none
    else
      k (.inr (x.1, x.2.1, x.2.2.1, x.2.2.2.1, x.2.2.2.2.1, x.2.2.2.2.2.1, x.2.2.2.2.2.2.1, x.2.2.2.2.2.2.2))

theorem impl_ScanAt_bp0 (x : ((List dVersion) × Int × Int × Int × ByteArray × ByteArray × (List dRange) × (List ByteArray))) : Par (impl_ScanAt_b0 x) := by
  unfold impl_ScanAt_b0
  exact (par_bif (par_ite (c := 0 ≤ x.2.2.2.1 ∧ x.2.2.2.1 < (x.2.2.2.2.2.2.2.length : Int)) ((impl_SeenAt_p x.1 (x.2.2.2.2.2.2.2.getD x.2.2.2.1.toNat (Ty.zero .str)) x.2.1).bind fun y3 => (par_bif ((impl_InRange_p (x.2.2.2.2.1, x.2.2.2.2.2.1) (x.2.2.2.2.2.2.2.getD x.2.2.2.1.toNat (Ty.zero .str))).bind fun y4 => (par_bif (par_ite (c := x.2.2.2.2.2.2.1.length + [((x.2.2.2.2.2.2.2.getD x.2.2.2.1.toNat (Ty.zero .str)), y3.1)].length ≤ VE.maxLen) (par_ret _) par_none) (par_ret _))) (par_ret _))) par_none) (par_ret _))

def impl_ScanAt_d (a0 : (List dVersion)) (a1 : dRange) (a2 : Int) (k : (List dRange) → Option Res) : Option Res :=
  impl_keysOf_k a0 (fun y1 =>
    loopK impl_ScanAt_b0 Fuel (a0, a2, (y1.length : Int), (0 : Int), a1.1, a1.2, ([] : List dRange), y1) (fun z2 =>
      k z2.2.2.2.2.2.2.1))

theorem impl_ScanAt_h : ∃ g : (List dVersion) → dRange → Int → ((List dRange) → Option Res) → Option Res, g = impl_ScanAt_d := ⟨_, rfl⟩
def impl_ScanAt_k : (List dVersion) → dRange → Int → ((List dRange) → Option Res) → Option Res := Classical.choose impl_ScanAt_h
theorem impl_ScanAt_e : impl_ScanAt_k = impl_ScanAt_d := Classical.choose_spec impl_ScanAt_h

theorem impl_ScanAt_p (a0 : (List dVersion)) (a1 : dRange) (a2 : Int) : Par (impl_ScanAt_k a0 a1 a2) := by
  rw [impl_ScanAt_e]
  unfold impl_ScanAt_d
  exact ((impl_keysOf_p a0).bind fun y1 => ((par_loop impl_ScanAt_bp0 Fuel (a0, a2, (y1.length : Int), (0 : Int), a1.1, a1.2, ([] : List dRange), y1)).bind fun z2 => (par_ret _)))

def laws_eqPair_d (a0 : dRange) (a1 : dRange) (k : Bool → Option Res) : Option Res :=
  bif (!(strEq a0.1 a1.1)) then
    k false
  else
    bif (!(strEq a0.2 a1.2)) then
      k false
    else
      k true

theorem laws_eqPair_h : ∃ g : dRange → dRange → (Bool → Option Res) → Option Res, g = laws_eqPair_d := ⟨_, rfl⟩
def laws_eqPair_k : dRange → dRange → (Bool → Option Res) → Option Res := Classical.choose laws_eqPair_h
theorem laws_eqPair_e : laws_eqPair_k = laws_eqPair_d := Classical.choose_spec laws_eqPair_h

theorem laws_eqPair_p (a0 : dRange) (a1 : dRange) : Par (laws_eqPair_k a0 a1) := by
  rw [laws_eqPair_e]
  unfold laws_eqPair_d
  exact (par_bif (par_ret _) (par_bif (par_ret _) (par_ret _)))

def laws_eqPairS_b0 (x : ((List dRange) × (List dRange) × Bool × Int)) (k : ((List dRange) × (List dRange) × Bool × Int) ⊕ (((List dRange) × (List dRange) × Bool × Int) ⊕ ((List dRange) × (List dRange) × Bool × Int)) → Option Res) : Option Res :=
    bif (decide (x.2.2.2 < (x.1.length : Int))) then
      if 0 ≤ x.2.2.2 ∧ x.2.2.2 < (x.1.length : Int) then
        if 0 ≤ x.2.2.2 ∧ x.2.2.2 < (x.2.1.length : Int) then
          laws_eqPair_k (rd (Ty.zero tRange) x.1 x.2.2.2) (rd (Ty.zero tRange) x.2.1 x.2.2.2) (fun y3 =>
            bif (!y3) then
              k (.inr (.inl (x.1, x.2.1, false, x.2.2.2)))
            else
              k (.inl (x.1, x.2.1, x.2.2.1, (IntKind.wrap .i64 (x.2.2.2 + (1 : Int))))))
        else none
      else none
    else
      k (.inr (.inr (x.1, x.2.1, x.2.2.1, x.2.2.2)))

theorem laws_eqPairS_bp0 (x : ((List dRange) × (List dRange) × Bool × Int)) : Par (laws_eqPairS_b0 x) := by
  unfold laws_eqPairS_b0
  exact (par_bif (par_ite (c := 0 ≤ x.2.2.2 ∧ x.2.2.2 < (x.1.length : Int)) (par_ite (c := 0 ≤ x.2.2.2 ∧ x.2.2.2 < (x.2.1.length : Int)) ((laws_eqPair_p (rd (Ty.zero tRange) x.1 x.2.2.2) (rd (Ty.zero tRange) x.2.1 x.2.2.2)).bind fun y3 => (par_bif (par_ret _) (par_ret _))) par_none) par_none) (par_ret _))

def laws_eqPairS_d (a0 : (List dRange)) (a1 : (List dRange)) (k : Bool → Option Res) : Option Res :=
  bif ((a0.length : Int) != (a1.length : Int)) then
    k false
  else
    loopK laws_eqPairS_b0 Fuel (a0, a1, false, (0 : Int)) (Sum.elim (fun z1 =>
      k z1.2.2.1) (fun _ =>
      k true))

theorem laws_eqPairS_h : ∃ g : (List dRange) → (List dRange) → (Bool → Option Res) → Option Res, g = laws_eqPairS_d := ⟨_, rfl⟩
def laws_eqPairS_k : (List dRange) → (List dRange) → (Bool → Option Res) → Option Res := Classical.choose laws_eqPairS_h
theorem laws_eqPairS_e : laws_eqPairS_k = laws_eqPairS_d := Classical.choose_spec laws_eqPairS_h

theorem laws_eqPairS_p (a0 : (List dRange)) (a1 : (List dRange)) : Par (laws_eqPairS_k a0 a1) := by
  rw [laws_eqPairS_e]
  unfold laws_eqPairS_d
  exact (par_bif (par_ret _) ((par_loop laws_eqPairS_bp0 Fuel (a0, a1, false, (0 : Int))).bind2 (fun z1 => (par_ret _)) (fun z2 => (par_ret _))))

def laws_eqVersion_d (a0 : dVersion) (a1 : dVersion) (k : Bool → Option Res) : Option Res :=
  bif (!(strEq a0.1 a1.1)) then
    k false
  else
    bif (!(strEq a0.2.1 a1.2.1)) then
      k false
    else
      bif (!(a0.2.2.1 == a1.2.2.1)) then
        k false
      else
        bif (a0.2.2.2 != a1.2.2.2) then
          k false
        else
          k true

theorem laws_eqVersion_h : ∃ g : dVersion → dVersion → (Bool → Option Res) → Option Res, g = laws_eqVersion_d := ⟨_, rfl⟩
def laws_eqVersion_k : dVersion → dVersion → (Bool → Option Res) → Option Res := Classical.choose laws_eqVersion_h
theorem laws_eqVersion_e : laws_eqVersion_k = laws_eqVersion_d := Classical.choose_spec laws_eqVersion_h

theorem laws_eqVersion_p (a0 : dVersion) (a1 : dVersion) : Par (laws_eqVersion_k a0 a1) := by
  rw [laws_eqVersion_e]
  unfold laws_eqVersion_d
  exact (par_bif (par_ret _) (par_bif (par_ret _) (par_bif (par_ret _) (par_bif (par_ret _) (par_ret _)))))

def laws_eqVersionS_b0 (x : ((List dVersion) × (List dVersion) × Bool × Int)) (k : ((List dVersion) × (List dVersion) × Bool × Int) ⊕ (((List dVersion) × (List dVersion) × Bool × Int) ⊕ ((List dVersion) × (List dVersion) × Bool × Int)) → Option Res) : Option Res :=
    bif (decide (x.2.2.2 < (x.1.length : Int))) then
      if 0 ≤ x.2.2.2 ∧ x.2.2.2 < (x.1.length : Int) then
        if 0 ≤ x.2.2.2 ∧ x.2.2.2 < (x.2.1.length : Int) then
          laws_eqVersion_k (rd (Ty.zero tVersion) x.1 x.2.2.2) (rd (Ty.zero tVersion) x.2.1 x.2.2.2) (fun y3 =>
            bif (!y3) then
              k (.inr (.inl (x.1, x.2.1, false, x.2.2.2)))
            else
              k (.inl (x.1, x.2.1, x.2.2.1, (IntKind.wrap .i64 (x.2.2.2 + (1 : Int))))))
        else none
      else none
    else
      k (.inr (.inr (x.1, x.2.1, x.2.2.1, x.2.2.2)))

theorem laws_eqVersionS_bp0 (x : ((List dVersion) × (List dVersion) × Bool × Int)) : Par (laws_eqVersionS_b0 x) := by
  unfold laws_eqVersionS_b0
  exact (par_bif (par_ite (c := 0 ≤ x.2.2.2 ∧ x.2.2.2 < (x.1.length : Int)) (par_ite (c := 0 ≤ x.2.2.2 ∧ x.2.2.2 < (x.2.1.length : Int)) ((laws_eqVersion_p (rd (Ty.zero tVersion) x.1 x.2.2.2) (rd (Ty.zero tVersion) x.2.1 x.2.2.2)).bind fun y3 => (par_bif (par_ret _) (par_ret _))) par_none) par_none) (par_ret _))

def laws_eqVersionS_d (a0 : (List dVersion)) (a1 : (List dVersion)) (k : Bool → Option Res) : Option Res :=
  bif ((a0.length : Int) != (a1.length : Int)) then
    k false
  else
    loopK laws_eqVersionS_b0 Fuel (a0, a1, false, (0 : Int)) (Sum.elim (fun z1 =>
      k z1.2.2.1) (fun _ =>
      k true))

theorem laws_eqVersionS_h : ∃ g : (List dVersion) → (List dVersion) → (Bool → Option Res) → Option Res, g = laws_eqVersionS_d := ⟨_, rfl⟩
def laws_eqVersionS_k : (List dVersion) → (List dVersion) → (Bool → Option Res) → Option Res := Classical.choose laws_eqVersionS_h
theorem laws_eqVersionS_e : laws_eqVersionS_k = laws_eqVersionS_d := Classical.choose_spec laws_eqVersionS_h

theorem laws_eqVersionS_p (a0 : (List dVersion)) (a1 : (List dVersion)) : Par (laws_eqVersionS_k a0 a1) := by
  rw [laws_eqVersionS_e]
  unfold laws_eqVersionS_d
  exact (par_bif (par_ret _) ((par_loop laws_eqVersionS_bp0 Fuel (a0, a1, false, (0 : Int))).bind2 (fun z1 => (par_ret _)) (fun z2 => (par_ret _))))

def laws_markText_b0 (x : (Int × ByteArray)) (k : (Int × ByteArray) ⊕ (Int × ByteArray) → Option Res) : Option Res :=
    bif (decide (x.1 > (0 : Int))) then
      if (bytesOf [(IntKind.wrap .u8 (IntKind.wrap .i64 ((48 : Int) + (x.1.tmod (10 : Int)))))]).size + x.2.size ≤ 1099511627776 then
        k (.inl ((IntKind.wrap .i64 (x.1.tdiv (10 : Int))), ((bytesOf [(IntKind.wrap .u8 (IntKind.wrap .i64 ((48 : Int) + (x.1.tmod (10 : Int)))))]) ++ x.2)))
      else none
    else
      k (.inr (x.1, x.2))

theorem laws_markText_bp0 (x : (Int × ByteArray)) : Par (laws_markText_b0 x) := by
  unfold laws_markText_b0
  exact (par_bif (par_ite (c := (bytesOf [(IntKind.wrap .u8 (IntKind.wrap .i64 ((48 : Int) + (x.1.tmod (10 : Int)))))]).size + x.2.size ≤ 1099511627776) (par_ret _) par_none) (par_ret _))

def laws_markText_d (a0 : Int) (k : ByteArray → Option Res) : Option Res :=
  bif (decide (a0 ≤ (0 : Int))) then
    k (⟨#[109, 48]⟩ : ByteArray)
  else
    loopK laws_markText_b0 Fuel (a0, (⟨#[]⟩ : ByteArray)) (fun z1 =>
      if (⟨#[109]⟩ : ByteArray).size + z1.2.size ≤ 1099511627776 then
        k ((⟨#[109]⟩ : ByteArray) ++ z1.2)
      else none)

theorem laws_markText_h : ∃ g : Int → (ByteArray → Option Res) → Option Res, g = laws_markText_d := ⟨_, rfl⟩
def laws_markText_k : Int → (ByteArray → Option Res) → Option Res := Classical.choose laws_markText_h
theorem laws_markText_e : laws_markText_k = laws_markText_d := Classical.choose_spec laws_markText_h

theorem laws_markText_p (a0 : Int) : Par (laws_markText_k a0) := by
  rw [laws_markText_e]
  unfold laws_markText_d
  exact (par_bif (par_ret _) ((par_loop laws_markText_bp0 Fuel (a0, (⟨#[]⟩ : ByteArray))).bind fun z1 => (par_ite (c := (⟨#[109]⟩ : ByteArray).size + z1.2.size ≤ 1099511627776) (par_ret _) par_none)))

def laws_markVersionS_vo_b0 (x : (Int × Int × (List dVersion))) (k : (Int × Int × (List dVersion)) ⊕ (Int × Int × (List dVersion)) → Option Res) : Option Res :=
    bif (decide (x.2.1 < (x.2.2.length : Int))) then
      laws_markText_k x.1 (fun y2 =>
        if 0 ≤ x.2.1 ∧ x.2.1 < (x.2.2.length : Int) then
          laws_markText_k (IntKind.wrap .i64 (x.1 + (1 : Int))) (fun y3 =>
            if 0 ≤ x.2.1 ∧ x.2.1 < ((x.2.2.set x.2.1.toNat (y2, (x.2.2.getD x.2.1.toNat (Ty.zero tVersion)).2)).length : Int) then
              if 0 ≤ x.2.1 ∧ x.2.1 < (((x.2.2.set x.2.1.toNat (y2, (x.2.2.getD x.2.1.toNat (Ty.zero tVersion)).2)).set x.2.1.toNat (((x.2.2.set x.2.1.toNat (y2, (x.2.2.getD x.2.1.toNat (Ty.zero tVersion)).2)).getD x.2.1.toNat (Ty.zero tVersion)).1, (y3, ((x.2.2.set x.2.1.toNat (y2, (x.2.2.getD x.2.1.toNat (Ty.zero tVersion)).2)).getD x.2.1.toNat (Ty.zero tVersion)).2.2))).length : Int) then
                if 0 ≤ x.2.1 ∧ x.2.1 < ((((x.2.2.set x.2.1.toNat (y2, (x.2.2.getD x.2.1.toNat (Ty.zero tVersion)).2)).set x.2.1.toNat (((x.2.2.set x.2.1.toNat (y2, (x.2.2.getD x.2.1.toNat (Ty.zero tVersion)).2)).getD x.2.1.toNat (Ty.zero tVersion)).1, (y3, ((x.2.2.set x.2.1.toNat (y2, (x.2.2.getD x.2.1.toNat (Ty.zero tVersion)).2)).getD x.2.1.toNat (Ty.zero tVersion)).2.2))).set x.2.1.toNat ((((x.2.2.set x.2.1.toNat (y2, (x.2.2.getD x.2.1.toNat (Ty.zero tVersion)).2)).set x.2.1.toNat (((x.2.2.set x.2.1.toNat (y2, (x.2.2.getD x.2.1.toNat (Ty.zero tVersion)).2)).getD x.2.1.toNat (Ty.zero tVersion)).1, (y3, ((x.2.2.set x.2.1.toNat (y2, (x.2.2.getD x.2.1.toNat (Ty.zero tVersion)).2)).getD x.2.1.toNat (Ty.zero tVersion)).2.2))).getD x.2.1.toNat (Ty.zero tVersion)).1, ((((x.2.2.set x.2.1.toNat (y2, (x.2.2.getD x.2.1.toNat (Ty.zero tVersion)).2)).set x.2.1.toNat (((x.2.2.set x.2.1.toNat (y2, (x.2.2.getD x.2.1.toNat (Ty.zero tVersion)).2)).getD x.2.1.toNat (Ty.zero tVersion)).1, (y3, ((x.2.2.set x.2.1.toNat (y2, (x.2.2.getD x.2.1.toNat (Ty.zero tVersion)).2)).getD x.2.1.toNat (Ty.zero tVersion)).2.2))).getD x.2.1.toNat (Ty.zero tVersion)).2.1, ((((IntKind.wrap .i64 ((IntKind.wrap .i64 (x.1 + (1 : Int))) + (1 : Int))).tmod (3 : Int)) == (0 : Int)), (((x.2.2.set x.2.1.toNat (y2, (x.2.2.getD x.2.1.toNat (Ty.zero tVersion)).2)).set x.2.1.toNat (((x.2.2.set x.2.1.toNat (y2, (x.2.2.getD x.2.1.toNat (Ty.zero tVersion)).2)).getD x.2.1.toNat (Ty.zero tVersion)).1, (y3, ((x.2.2.set x.2.1.toNat (y2, (x.2.2.getD x.2.1.toNat (Ty.zero tVersion)).2)).getD x.2.1.toNat (Ty.zero tVersion)).2.2))).getD x.2.1.toNat (Ty.zero tVersion)).2.2.2)))).length : Int) then
                  k (.inl ((IntKind.wrap .i64 ((IntKind.wrap .i64 ((IntKind.wrap .i64 ((IntKind.wrap .i64 (x.1 + (1 : Int))) + (1 : Int))) + (1 : Int))) + (1 : Int))), (IntKind.wrap .i64 (x.2.1 + (1 : Int))), ((((x.2.2.set x.2.1.toNat (y2, (x.2.2.getD x.2.1.toNat (Ty.zero tVersion)).2)).set x.2.1.toNat (((x.2.2.set x.2.1.toNat (y2, (x.2.2.getD x.2.1.toNat (Ty.zero tVersion)).2)).getD x.2.1.toNat (Ty.zero tVersion)).1, (y3, ((x.2.2.set x.2.1.toNat (y2, (x.2.2.getD x.2.1.toNat (Ty.zero tVersion)).2)).getD x.2.1.toNat (Ty.zero tVersion)).2.2))).set x.2.1.toNat ((((x.2.2.set x.2.1.toNat (y2, (x.2.2.getD x.2.1.toNat (Ty.zero tVersion)).2)).set x.2.1.toNat (((x.2.2.set x.2.1.toNat (y2, (x.2.2.getD x.2.1.toNat (Ty.zero tVersion)).2)).getD x.2.1.toNat (Ty.zero tVersion)).1, (y3, ((x.2.2.set x.2.1.toNat (y2, (x.2.2.getD x.2.1.toNat (Ty.zero tVersion)).2)).getD x.2.1.toNat (Ty.zero tVersion)).2.2))).getD x.2.1.toNat (Ty.zero tVersion)).1, ((((x.2.2.set x.2.1.toNat (y2, (x.2.2.getD x.2.1.toNat (Ty.zero tVersion)).2)).set x.2.1.toNat (((x.2.2.set x.2.1.toNat (y2, (x.2.2.getD x.2.1.toNat (Ty.zero tVersion)).2)).getD x.2.1.toNat (Ty.zero tVersion)).1, (y3, ((x.2.2.set x.2.1.toNat (y2, (x.2.2.getD x.2.1.toNat (Ty.zero tVersion)).2)).getD x.2.1.toNat (Ty.zero tVersion)).2.2))).getD x.2.1.toNat (Ty.zero tVersion)).2.1, ((((IntKind.wrap .i64 ((IntKind.wrap .i64 (x.1 + (1 : Int))) + (1 : Int))).tmod (3 : Int)) == (0 : Int)), (((x.2.2.set x.2.1.toNat (y2, (x.2.2.getD x.2.1.toNat (Ty.zero tVersion)).2)).set x.2.1.toNat (((x.2.2.set x.2.1.toNat (y2, (x.2.2.getD x.2.1.toNat (Ty.zero tVersion)).2)).getD x.2.1.toNat (Ty.zero tVersion)).1, (y3, ((x.2.2.set x.2.1.toNat (y2, (x.2.2.getD x.2.1.toNat (Ty.zero tVersion)).2)).getD x.2.1.toNat (Ty.zero tVersion)).2.2))).getD x.2.1.toNat (Ty.zero tVersion)).2.2.2)))).set x.2.1.toNat (((((x.2.2.set x.2.1.toNat (y2, (x.2.2.getD x.2.1.toNat (Ty.zero tVersion)).2)).set x.2.1.toNat (((x.2.2.set x.2.1.toNat (y2, (x.2.2.getD x.2.1.toNat (Ty.zero tVersion)).2)).getD x.2.1.toNat (Ty.zero tVersion)).1, (y3, ((x.2.2.set x.2.1.toNat (y2, (x.2.2.getD x.2.1.toNat (Ty.zero tVersion)).2)).getD x.2.1.toNat (Ty.zero tVersion)).2.2))).set x.2.1.toNat ((((x.2.2.set x.2.1.toNat (y2, (x.2.2.getD x.2.1.toNat (Ty.zero tVersion)).2)).set x.2.1.toNat (((x.2.2.set x.2.1.toNat (y2, (x.2.2.getD x.2.1.toNat (Ty.zero tVersion)).2)).getD x.2.1.toNat (Ty.zero tVersion)).1, (y3, ((x.2.2.set x.2.1.toNat (y2, (x.2.2.getD x.2.1.toNat (Ty.zero tVersion)).2)).getD x.2.1.toNat (Ty.zero tVersion)).2.2))).getD x.2.1.toNat (Ty.zero tVersion)).1, ((((x.2.2.set x.2.1.toNat (y2, (x.2.2.getD x.2.1.toNat (Ty.zero tVersion)).2)).set x.2.1.toNat (((x.2.2.set x.2.1.toNat (y2, (x.2.2.getD x.2.1.toNat (Ty.zero tVersion)).2)).getD x.2.1.toNat (Ty.zero tVersion)).1, (y3, ((x.2.2.set x.2.1.toNat (y2, (x.2.2.getD x.2.1.toNat (Ty.zero tVersion)).2)).getD x.2.1.toNat (Ty.zero tVersion)).2.2))).getD x.2.1.toNat (Ty.zero tVersion)).2.1, ((((IntKind.wrap .i64 ((IntKind.wrap .i64 (x.1 + (1 : Int))) + (1 : Int))).tmod (3 : Int)) == (0 : Int)), (((x.2.2.set x.2.1.toNat (y2, (x.2.2.getD x.2.1.toNat (Ty.zero tVersion)).2)).set x.2.1.toNat (((x.2.2.set x.2.1.toNat (y2, (x.2.2.getD x.2.1.toNat (Ty.zero tVersion)).2)).getD x.2.1.toNat (Ty.zero tVersion)).1, (y3, ((x.2.2.set x.2.1.toNat (y2, (x.2.2.getD x.2.1.toNat (Ty.zero tVersion)).2)).getD x.2.1.toNat (Ty.zero tVersion)).2.2))).getD x.2.1.toNat (Ty.zero tVersion)).2.2.2)))).getD x.2.1.toNat (Ty.zero tVersion)).1, (((((x.2.2.set x.2.1.toNat (y2, (x.2.2.getD x.2.1.toNat (Ty.zero tVersion)).2)).set x.2.1.toNat (((x.2.2.set x.2.1.toNat (y2, (x.2.2.getD x.2.1.toNat (Ty.zero tVersion)).2)).getD x.2.1.toNat (Ty.zero tVersion)).1, (y3, ((x.2.2.set x.2.1.toNat (y2, (x.2.2.getD x.2.1.toNat (Ty.zero tVersion)).2)).getD x.2.1.toNat (Ty.zero tVersion)).2.2))).set x.2.1.toNat ((((x.2.2.set x.2.1.toNat (y2, (x.2.2.getD x.2.1.toNat (Ty.zero tVersion)).2)).set x.2.1.toNat (((x.2.2.set x.2.1.toNat (y2, (x.2.2.getD x.2.1.toNat (Ty.zero tVersion)).2)).getD x.2.1.toNat (Ty.zero tVersion)).1, (y3, ((x.2.2.set x.2.1.toNat (y2, (x.2.2.getD x.2.1.toNat (Ty.zero tVersion)).2)).getD x.2.1.toNat (Ty.zero tVersion)).2.2))).getD x.2.1.toNat (Ty.zero tVersion)).1, ((((x.2.2.set x.2.1.toNat (y2, (x.2.2.getD x.2.1.toNat (Ty.zero tVersion)).2)).set x.2.1.toNat (((x.2.2.set x.2.1.toNat (y2, (x.2.2.getD x.2.1.toNat (Ty.zero tVersion)).2)).getD x.2.1.toNat (Ty.zero tVersion)).1, (y3, ((x.2.2.set x.2.1.toNat (y2, (x.2.2.getD x.2.1.toNat (Ty.zero tVersion)).2)).getD x.2.1.toNat (Ty.zero tVersion)).2.2))).getD x.2.1.toNat (Ty.zero tVersion)).2.1, ((((IntKind.wrap .i64 ((IntKind.wrap .i64 (x.1 + (1 : Int))) + (1 : Int))).tmod (3 : Int)) == (0 : Int)), (((x.2.2.set x.2.1.toNat (y2, (x.2.2.getD x.2.1.toNat (Ty.zero tVersion)).2)).set x.2.1.toNat (((x.2.2.set x.2.1.toNat (y2, (x.2.2.getD x.2.1.toNat (Ty.zero tVersion)).2)).getD x.2.1.toNat (Ty.zero tVersion)).1, (y3, ((x.2.2.set x.2.1.toNat (y2, (x.2.2.getD x.2.1.toNat (Ty.zero tVersion)).2)).getD x.2.1.toNat (Ty.zero tVersion)).2.2))).getD x.2.1.toNat (Ty.zero tVersion)).2.2.2)))).getD x.2.1.toNat (Ty.zero tVersion)).2.1, (((((x.2.2.set x.2.1.toNat (y2, (x.2.2.getD x.2.1.toNat (Ty.zero tVersion)).2)).set x.2.1.toNat (((x.2.2.set x.2.1.toNat (y2, (x.2.2.getD x.2.1.toNat (Ty.zero tVersion)).2)).getD x.2.1.toNat (Ty.zero tVersion)).1, (y3, ((x.2.2.set x.2.1.toNat (y2, (x.2.2.getD x.2.1.toNat (Ty.zero tVersion)).2)).getD x.2.1.toNat (Ty.zero tVersion)).2.2))).set x.2.1.toNat ((((x.2.2.set x.2.1.toNat (y2, (x.2.2.getD x.2.1.toNat (Ty.zero tVersion)).2)).set x.2.1.toNat (((x.2.2.set x.2.1.toNat (y2, (x.2.2.getD x.2.1.toNat (Ty.zero tVersion)).2)).getD x.2.1.toNat (Ty.zero tVersion)).1, (y3, ((x.2.2.set x.2.1.toNat (y2, (x.2.2.getD x.2.1.toNat (Ty.zero tVersion)).2)).getD x.2.1.toNat (Ty.zero tVersion)).2.2))).getD x.2.1.toNat (Ty.zero tVersion)).1, ((((x.2.2.set x.2.1.toNat (y2, (x.2.2.getD x.2.1.toNat (Ty.zero tVersion)).2)).set x.2.1.toNat (((x.2.2.set x.2.1.toNat (y2, (x.2.2.getD x.2.1.toNat (Ty.zero tVersion)).2)).getD x.2.1.toNat (Ty.zero tVersion)).1, (y3, ((x.2.2.set x.2.1.toNat (y2, (x.2.2.getD x.2.1.toNat (Ty.zero tVersion)).2)).getD x.2.1.toNat (Ty.zero tVersion)).2.2))).getD x.2.1.toNat (Ty.zero tVersion)).2.1, ((((IntKind.wrap .i64 ((IntKind.wrap .i64 (x.1 + (1 : Int))) + (1 : Int))).tmod (3 : Int)) == (0 : Int)), (((x.2.2.set x.2.1.toNat (y2, (x.2.2.getD x.2.1.toNat (Ty.zero tVersion)).2)).set x.2.1.toNat (((x.2.2.set x.2.1.toNat (y2, (x.2.2.getD x.2.1.toNat (Ty.zero tVersion)).2)).getD x.2.1.toNat (Ty.zero tVersion)).1, (y3, ((x.2.2.set x.2.1.toNat (y2, (x.2.2.getD x.2.1.toNat (Ty.zero tVersion)).2)).getD x.2.1.toNat (Ty.zero tVersion)).2.2))).getD x.2.1.toNat (Ty.zero tVersion)).2.2.2)))).getD x.2.1.toNat (Ty.zero tVersion)).2.2.1, (IntKind.wrap .i64 ((IntKind.wrap .i64 ((IntKind.wrap .i64 (x.1 + (1 : Int))) + (1 : Int))) + (1 : Int)))))))))
                else none
              else none
            else none)
        else none)
    else
      k (.inr (x.1, x.2.1, x.2.2))

theorem laws_markVersionS_vo_bp0 (x : (Int × Int × (List dVersion))) : Par (laws_markVersionS_vo_b0 x) := by
  unfold laws_markVersionS_vo_b0
  exact (par_bif ((laws_markText_p x.1).bind fun y2 => (par_ite (c := 0 ≤ x.2.1 ∧ x.2.1 < (x.2.2.length : Int)) ((laws_markText_p (IntKind.wrap .i64 (x.1 + (1 : Int)))).bind fun y3 => (par_ite (c := 0 ≤ x.2.1 ∧ x.2.1 < ((x.2.2.set x.2.1.toNat (y2, (x.2.2.getD x.2.1.toNat (Ty.zero tVersion)).2)).length : Int)) (par_ite (c := 0 ≤ x.2.1 ∧ x.2.1 < (((x.2.2.set x.2.1.toNat (y2, (x.2.2.getD x.2.1.toNat (Ty.zero tVersion)).2)).set x.2.1.toNat (((x.2.2.set x.2.1.toNat (y2, (x.2.2.getD x.2.1.toNat (Ty.zero tVersion)).2)).getD x.2.1.toNat (Ty.zero tVersion)).1, (y3, ((x.2.2.set x.2.1.toNat (y2, (x.2.2.getD x.2.1.toNat (Ty.zero tVersion)).2)).getD x.2.1.toNat (Ty.zero tVersion)).2.2))).length : Int)) (par_ite (c := 0 ≤ x.2.1 ∧ x.2.1 < ((((x.2.2.set x.2.1.toNat (y2, (x.2.2.getD x.2.1.toNat (Ty.zero tVersion)).2)).set x.2.1.toNat (((x.2.2.set x.2.1.toNat (y2, (x.2.2.getD x.2.1.toNat (Ty.zero tVersion)).2)).getD x.2.1.toNat (Ty.zero tVersion)).1, (y3, ((x.2.2.set x.2.1.toNat (y2, (x.2.2.getD x.2.1.toNat (Ty.zero tVersion)).2)).getD x.2.1.toNat (Ty.zero tVersion)).2.2))).set x.2.1.toNat ((((x.2.2.set x.2.1.toNat (y2, (x.2.2.getD x.2.1.toNat (Ty.zero tVersion)).2)).set x.2.1.toNat (((x.2.2.set x.2.1.toNat (y2, (x.2.2.getD x.2.1.toNat (Ty.zero tVersion)).2)).getD x.2.1.toNat (Ty.zero tVersion)).1, (y3, ((x.2.2.set x.2.1.toNat (y2, (x.2.2.getD x.2.1.toNat (Ty.zero tVersion)).2)).getD x.2.1.toNat (Ty.zero tVersion)).2.2))).getD x.2.1.toNat (Ty.zero tVersion)).1, ((((x.2.2.set x.2.1.toNat (y2, (x.2.2.getD x.2.1.toNat (Ty.zero tVersion)).2)).set x.2.1.toNat (((x.2.2.set x.2.1.toNat (y2, (x.2.2.getD x.2.1.toNat (Ty.zero tVersion)).2)).getD x.2.1.toNat (Ty.zero tVersion)).1, (y3, ((x.2.2.set x.2.1.toNat (y2, (x.2.2.getD x.2.1.toNat (Ty.zero tVersion)).2)).getD x.2.1.toNat (Ty.zero tVersion)).2.2))).getD x.2.1.toNat (Ty.zero tVersion)).2.1, ((((IntKind.wrap .i64 ((IntKind.wrap .i64 (x.1 + (1 : Int))) + (1 : Int))).tmod (3 : Int)) == (0 : Int)), (((x.2.2.set x.2.1.toNat (y2, (x.2.2.getD x.2.1.toNat (Ty.zero tVersion)).2)).set x.2.1.toNat (((x.2.2.set x.2.1.toNat (y2, (x.2.2.getD x.2.1.toNat (Ty.zero tVersion)).2)).getD x.2.1.toNat (Ty.zero tVersion)).1, (y3, ((x.2.2.set x.2.1.toNat (y2, (x.2.2.getD x.2.1.toNat (Ty.zero tVersion)).2)).getD x.2.1.toNat (Ty.zero tVersion)).2.2))).getD x.2.1.toNat (Ty.zero tVersion)).2.2.2)))).length : Int)) (par_ret _) par_none) par_none) par_none)) par_none)) (par_ret _))

def laws_markVersionS_vo_d (a0 : Int) (a1 : (List dVersion)) (k : (Int × (List dVersion)) → Option Res) : Option Res :=
  loopK laws_markVersionS_vo_b0 Fuel (a0, (0 : Int), a1) (fun z1 =>
    k (z1.1, z1.2.2))

theorem laws_markVersionS_vo_h : ∃ g : Int → (List dVersion) → ((Int × (List dVersion)) → Option Res) → Option Res, g = laws_markVersionS_vo_d := ⟨_, rfl⟩
def laws_markVersionS_vo_k : Int → (List dVersion) → ((Int × (List dVersion)) → Option Res) → Option Res := Classical.choose laws_markVersionS_vo_h
theorem laws_markVersionS_vo_e : laws_markVersionS_vo_k = laws_markVersionS_vo_d := Classical.choose_spec laws_markVersionS_vo_h

theorem laws_markVersionS_vo_p (a0 : Int) (a1 : (List dVersion)) : Par (laws_markVersionS_vo_k a0 a1) := by
  rw [laws_markVersionS_vo_e]
  unfold laws_markVersionS_vo_d
  exact ((par_loop laws_markVersionS_vo_bp0 Fuel (a0, (0 : Int), a1)).bind fun z1 => (par_ret _))

def laws_markPairS_vo_b0 (x : (Int × Int × (List dRange))) (k : (Int × Int × (List dRange)) ⊕ (Int × Int × (List dRange)) → Option Res) : Option Res :=
    bif (decide (x.2.1 < (x.2.2.length : Int))) then
      laws_markText_k x.1 (fun y2 =>
        if 0 ≤ x.2.1 ∧ x.2.1 < (x.2.2.length : Int) then
          laws_markText_k (IntKind.wrap .i64 (x.1 + (1 : Int))) (fun y3 =>
            if 0 ≤ x.2.1 ∧ x.2.1 < ((x.2.2.set x.2.1.toNat (y2, (x.2.2.getD x.2.1.toNat (Ty.zero tRange)).2)).length : Int) then
              k (.inl ((IntKind.wrap .i64 ((IntKind.wrap .i64 (x.1 + (1 : Int))) + (1 : Int))), (IntKind.wrap .i64 (x.2.1 + (1 : Int))), ((x.2.2.set x.2.1.toNat (y2, (x.2.2.getD x.2.1.toNat (Ty.zero tRange)).2)).set x.2.1.toNat (((x.2.2.set x.2.1.toNat (y2, (x.2.2.getD x.2.1.toNat (Ty.zero tRange)).2)).getD x.2.1.toNat (Ty.zero tRange)).1, y3))))
            else none)
        else none)
    else
      k (.inr (x.1, x.2.1, x.2.2))

theorem laws_markPairS_vo_bp0 (x : (Int × Int × (List dRange))) : Par (laws_markPairS_vo_b0 x) := by
  unfold laws_markPairS_vo_b0
  exact (par_bif ((laws_markText_p x.1).bind fun y2 => (par_ite (c := 0 ≤ x.2.1 ∧ x.2.1 < (x.2.2.length : Int)) ((laws_markText_p (IntKind.wrap .i64 (x.1 + (1 : Int)))).bind fun y3 => (par_ite (c := 0 ≤ x.2.1 ∧ x.2.1 < ((x.2.2.set x.2.1.toNat (y2, (x.2.2.getD x.2.1.toNat (Ty.zero tRange)).2)).length : Int)) (par_ret _) par_none)) par_none)) (par_ret _))

def laws_markPairS_vo_d (a0 : Int) (a1 : (List dRange)) (k : (Int × (List dRange)) → Option Res) : Option Res :=
  loopK laws_markPairS_vo_b0 Fuel (a0, (0 : Int), a1) (fun z1 =>
    k (z1.1, z1.2.2))

theorem laws_markPairS_vo_h : ∃ g : Int → (List dRange) → ((Int × (List dRange)) → Option Res) → Option Res, g = laws_markPairS_vo_d := ⟨_, rfl⟩
def laws_markPairS_vo_k : Int → (List dRange) → ((Int × (List dRange)) → Option Res) → Option Res := Classical.choose laws_markPairS_vo_h
theorem laws_markPairS_vo_e : laws_markPairS_vo_k = laws_markPairS_vo_d := Classical.choose_spec laws_markPairS_vo_h

theorem laws_markPairS_vo_p (a0 : Int) (a1 : (List dRange)) : Par (laws_markPairS_vo_k a0 a1) := by
  rw [laws_markPairS_vo_e]
  unfold laws_markPairS_vo_d
  exact ((par_loop laws_markPairS_vo_bp0 Fuel (a0, (0 : Int), a1)).bind fun z1 => (par_ret _))

def laws_heldPairS_b0 (x : ((List dRange) × Int × Int × Int)) (k : ((List dRange) × Int × Int × Int) ⊕ (((List dRange) × Int × Int × Int) ⊕ ((List dRange) × Int × Int × Int)) → Option Res) : Option Res :=
    bif (decide (x.2.2.2 < (x.1.length : Int))) then
      if 0 ≤ x.2.2.2 ∧ x.2.2.2 < (x.1.length : Int) then
        laws_markText_k x.2.1 (fun y3 =>
          bif (!(strEq ((rd (Ty.zero tRange) x.1 x.2.2.2).1) y3)) then
            k (.inr (.inl (x.1, x.2.1, (-1 : Int), x.2.2.2)))
          else
            if 0 ≤ x.2.2.2 ∧ x.2.2.2 < (x.1.length : Int) then
              laws_markText_k (IntKind.wrap .i64 (x.2.1 + (1 : Int))) (fun y4 =>
                bif (!(strEq ((rd (Ty.zero tRange) x.1 x.2.2.2).2) y4)) then
                  k (.inr (.inl (x.1, (IntKind.wrap .i64 (x.2.1 + (1 : Int))), (-1 : Int), x.2.2.2)))
                else
                  k (.inl (x.1, (IntKind.wrap .i64 ((IntKind.wrap .i64 (x.2.1 + (1 : Int))) + (1 : Int))), x.2.2.1, (IntKind.wrap .i64 (x.2.2.2 + (1 : Int))))))
            else none)
      else none
    else
      k (.inr (.inr (x.1, x.2.1, x.2.2.1, x.2.2.2)))

theorem laws_heldPairS_bp0 (x : ((List dRange) × Int × Int × Int)) : Par (laws_heldPairS_b0 x) := by
  unfold laws_heldPairS_b0
  exact (par_bif (par_ite (c := 0 ≤ x.2.2.2 ∧ x.2.2.2 < (x.1.length : Int)) ((laws_markText_p x.2.1).bind fun y3 => (par_bif (par_ret _) (par_ite (c := 0 ≤ x.2.2.2 ∧ x.2.2.2 < (x.1.length : Int)) ((laws_markText_p (IntKind.wrap .i64 (x.2.1 + (1 : Int)))).bind fun y4 => (par_bif (par_ret _) (par_ret _))) par_none))) par_none) (par_ret _))

def laws_heldPairS_d (a0 : (List dRange)) (a1 : Int) (k : Int → Option Res) : Option Res :=
  loopK laws_heldPairS_b0 Fuel (a0, a1, (0 : Int), (0 : Int)) (Sum.elim (fun z1 =>
    k z1.2.2.1) (fun z2 =>
    k z2.2.1))

theorem laws_heldPairS_h : ∃ g : (List dRange) → Int → (Int → Option Res) → Option Res, g = laws_heldPairS_d := ⟨_, rfl⟩
def laws_heldPairS_k : (List dRange) → Int → (Int → Option Res) → Option Res := Classical.choose laws_heldPairS_h
theorem laws_heldPairS_e : laws_heldPairS_k = laws_heldPairS_d := Classical.choose_spec laws_heldPairS_h

theorem laws_heldPairS_p (a0 : (List dRange)) (a1 : Int) : Par (laws_heldPairS_k a0 a1) := by
  rw [laws_heldPairS_e]
  unfold laws_heldPairS_d
  exact ((par_loop laws_heldPairS_bp0 Fuel (a0, a1, (0 : Int), (0 : Int))).bind2 (fun z1 => (par_ret _)) (fun z2 => (par_ret _)))

def laws_FnExactScanAt_j5000019 (x : ((List dVersion) × Int × Bool × ByteArray × ByteArray × (List dRange) × (List dRange))) (k : ((List dVersion) × Int × Bool × ByteArray × ByteArray × (List dRange) × (List dRange)) → Option Res) : Option Res :=
    laws_markPairS_vo_k (1 : Int) x.2.2.2.2.2.2 (fun y15 =>
      laws_heldPairS_k y15.2 (1 : Int) (fun y16 =>
        bif (decide (y16 < (0 : Int))) then
          k (x.1, x.2.1, false, x.2.2.2.1, x.2.2.2.2.1, x.2.2.2.2.2.1, y15.2)
        else
          bif (y16 != y15.1) then
            k (x.1, x.2.1, false, x.2.2.2.1, x.2.2.2.2.1, x.2.2.2.2.2.1, y15.2)
          else
            laws_toVersionS_k x.1 (fun y17 =>
              laws_toRange_k (x.2.2.2.1, x.2.2.2.2.1) (fun y18 =>
                impl_ScanAt_k y17 y18 x.2.1 (fun y19 =>
                  laws_eqPairS_k y19 x.2.2.2.2.2.1 (fun y20 =>
                    bif (!y20) then
                      k (x.1, x.2.1, false, x.2.2.2.1, x.2.2.2.2.1, x.2.2.2.2.2.1, y15.2)
                    else
                      laws_heldPairS_k y15.2 (1 : Int) (fun y21 =>
                        bif (decide (y21 < (0 : Int))) then
                          k (x.1, x.2.1, false, x.2.2.2.1, x.2.2.2.2.1, x.2.2.2.2.2.1, y15.2)
                        else
                          bif (y21 != y15.1) then
                            k (x.1, x.2.1, false, x.2.2.2.1, x.2.2.2.2.1, x.2.2.2.2.2.1, y15.2)
                          else
                            k (x.1, x.2.1, true, x.2.2.2.1, x.2.2.2.2.1, x.2.2.2.2.2.1, y15.2))))))))

theorem laws_FnExactScanAt_jp5000019 (x : ((List dVersion) × Int × Bool × ByteArray × ByteArray × (List dRange) × (List dRange))) : Par (laws_FnExactScanAt_j5000019 x) := by
  unfold laws_FnExactScanAt_j5000019
  exact ((laws_markPairS_vo_p (1 : Int) x.2.2.2.2.2.2).bind fun y15 => ((laws_heldPairS_p y15.2 (1 : Int)).bind fun y16 => (par_bif (par_ret _) (par_bif (par_ret _) ((laws_toVersionS_p x.1).bind fun y17 => ((laws_toRange_p (x.2.2.2.1, x.2.2.2.2.1)).bind fun y18 => ((impl_ScanAt_p y17 y18 x.2.1).bind fun y19 => ((laws_eqPairS_p y19 x.2.2.2.2.2.1).bind fun y20 => (par_bif (par_ret _) ((laws_heldPairS_p y15.2 (1 : Int)).bind fun y21 => (par_bif (par_ret _) (par_bif (par_ret _) (par_ret _)))))))))))))

def laws_FnExactScanAt_d (a0 : (List dVersion)) (a1 : dRange) (a2 : Int) (k : Bool → Option Res) : Option Res :=
  laws_szVersionS_k a0 (1048576 : Int) (fun y1 =>
    bif (decide (y1 < (0 : Int))) then
      k true
    else
      laws_szRange_k a1 y1 (fun y2 =>
        bif (decide (y2 < (0 : Int))) then
          k true
        else
          laws_toVersionS_k a0 (fun y3 =>
            laws_toRange_k a1 (fun y4 =>
              spec_ScanAt_k y3 y4 a2 (fun y5 =>
                laws_toVersionS_k a0 (fun y6 =>
                  laws_toRange_k a1 (fun y7 =>
                    impl_ScanAt_k y6 y7 a2 (fun y8 =>
                      laws_eqPairS_k y8 y5 (fun y9 =>
                        bif (!y9) then
                          k false
                        else
                          laws_toVersionS_k a0 (fun y10 =>
                            laws_eqVersionS_k y6 y10 (fun y11 =>
                              bif (!y11) then
                                k false
                              else
                                laws_markVersionS_vo_k (1 : Int) y6 (fun y12 =>
                                  bif (decide (y12.1 < (0 : Int))) then
                                    k false
                                  else
                                    laws_eqPairS_k y8 y5 (fun y13 =>
                                      bif (!y13) then
                                        k false
                                      else
                                        laws_FnExactScanAt_j5000019 (a0, a2, false, a1.1, a1.2, y5, y8) (fun z14 =>
                                          k z14.2.2.1))))))))))))))

theorem laws_FnExactScanAt_h : ∃ g : (List dVersion) → dRange → Int → (Bool → Option Res) → Option Res, g = laws_FnExactScanAt_d := ⟨_, rfl⟩
def laws_FnExactScanAt_k : (List dVersion) → dRange → Int → (Bool → Option Res) → Option Res := Classical.choose laws_FnExactScanAt_h
theorem laws_FnExactScanAt_e : laws_FnExactScanAt_k = laws_FnExactScanAt_d := Classical.choose_spec laws_FnExactScanAt_h

theorem laws_FnExactScanAt_p (a0 : (List dVersion)) (a1 : dRange) (a2 : Int) : Par (laws_FnExactScanAt_k a0 a1 a2) := by
  rw [laws_FnExactScanAt_e]
  unfold laws_FnExactScanAt_d
  exact ((laws_szVersionS_p a0 (1048576 : Int)).bind fun y1 => (par_bif (par_ret _) ((laws_szRange_p a1 y1).bind fun y2 => (par_bif (par_ret _) ((laws_toVersionS_p a0).bind fun y3 => ((laws_toRange_p a1).bind fun y4 => ((spec_ScanAt_p y3 y4 a2).bind fun y5 => ((laws_toVersionS_p a0).bind fun y6 => ((laws_toRange_p a1).bind fun y7 => ((impl_ScanAt_p y6 y7 a2).bind fun y8 => ((laws_eqPairS_p y8 y5).bind fun y9 => (par_bif (par_ret _) ((laws_toVersionS_p a0).bind fun y10 => ((laws_eqVersionS_p y6 y10).bind fun y11 => (par_bif (par_ret _) ((laws_markVersionS_vo_p (1 : Int) y6).bind fun y12 => (par_bif (par_ret _) ((laws_eqPairS_p y8 y5).bind fun y13 => (par_bif (par_ret _) ((laws_FnExactScanAt_jp5000019 (a0, a2, false, a1.1, a1.2, y5, y8)).bind fun z14 => (par_ret _)))))))))))))))))))))

def laws_szVersion_g (args : List AV) (st : St) (k : K1) : Option Res :=
  onPats [.agg [.str, .str, .bool, .int .i64], .int .i64] [] args st (fun p q => laws_szVersion_k (p.1.1, (p.1.2.1, (p.1.2.2.1, p.1.2.2.2.1))) p.2.1 (fun (y : Int) => k (.int .i64 y) []))
    (none)

theorem laws_szVersion_q (a0 : ByteArray) (a1 : ByteArray) (a2 : Bool) (a3 : Int) (a4 : Int) : Par (fun k : AV × St → Option Res => laws_szVersion_g [.agg [.str a0, .str a1, .bool a2, .int .i64 a3], .int .i64 a4] [] (fun v s => k (v, s))) :=
  (laws_szVersion_p (a0, (a1, (a2, a3))) a4).bind (H := fun (y : Int) (k : AV × St → Option Res) => (fun (y : Int) => k ((.int .i64 y : AV), ([] : St))) y) (fun y => par_ret _)

def laws_szVersionS_g (args : List AV) (st : St) (k : K1) : Option Res :=
  onPats [.lst tVersion, .int .i64] [] args st (fun p q => laws_szVersionS_k p.1 p.2.1 (fun (y : Int) => k (.int .i64 y) []))
    (none)

theorem laws_szVersionS_q (a0 : (List dVersion)) (a1 : Int) : Par (fun k : AV × St → Option Res => laws_szVersionS_g [.lst tVersion a0, .int .i64 a1] [] (fun v s => k (v, s))) :=
  (laws_szVersionS_p a0 a1).bind (H := fun (y : Int) (k : AV × St → Option Res) => (fun (y : Int) => k ((.int .i64 y : AV), ([] : St))) y) (fun y => par_ret _)

def laws_szRange_g (args : List AV) (st : St) (k : K1) : Option Res :=
  onPats [.agg [.str, .str], .int .i64] [] args st (fun p q => laws_szRange_k (p.1.1, p.1.2.1) p.2.1 (fun (y : Int) => k (.int .i64 y) []))
    (none)

theorem laws_szRange_q (a0 : ByteArray) (a1 : ByteArray) (a2 : Int) : Par (fun k : AV × St → Option Res => laws_szRange_g [.agg [.str a0, .str a1], .int .i64 a2] [] (fun v s => k (v, s))) :=
  (laws_szRange_p (a0, a1) a2).bind (H := fun (y : Int) (k : AV × St → Option Res) => (fun (y : Int) => k ((.int .i64 y : AV), ([] : St))) y) (fun y => par_ret _)

def laws_toVersion_g (args : List AV) (st : St) (k : K1) : Option Res :=
  onPats [.agg [.str, .str, .bool, .int .i64]] [] args st (fun p q => laws_toVersion_k (p.1.1, (p.1.2.1, (p.1.2.2.1, p.1.2.2.2.1))) (fun (y : (ByteArray × ByteArray × Bool × Int)) => k (.agg [.str y.1, .str y.2.1, .bool y.2.2.1, .int .i64 y.2.2.2]) []))
    (none)

theorem laws_toVersion_q (a0 : ByteArray) (a1 : ByteArray) (a2 : Bool) (a3 : Int) : Par (fun k : AV × St → Option Res => laws_toVersion_g [.agg [.str a0, .str a1, .bool a2, .int .i64 a3]] [] (fun v s => k (v, s))) :=
  (laws_toVersion_p (a0, (a1, (a2, a3)))).bind (H := fun (y : (ByteArray × ByteArray × Bool × Int)) (k : AV × St → Option Res) => (fun (y : (ByteArray × ByteArray × Bool × Int)) => k ((.agg [.str y.1, .str y.2.1, .bool y.2.2.1, .int .i64 y.2.2.2] : AV), ([] : St))) y) (fun y => par_ret _)

def laws_toVersionS_g (args : List AV) (st : St) (k : K1) : Option Res :=
  onPats [.lst tVersion] [] args st (fun p q => laws_toVersionS_k p.1 (fun (y : (List dVersion)) => k (.own 0) [.arr tVersion y]))
    (none)

theorem laws_toVersionS_q (a0 : (List dVersion)) : Par (fun k : AV × St → Option Res => laws_toVersionS_g [.lst tVersion a0] [] (fun v s => k (v, s))) :=
  (laws_toVersionS_p a0).bind (H := fun (y : (List dVersion)) (k : AV × St → Option Res) => (fun (y : (List dVersion)) => k ((.own 0 : AV), ([.arr tVersion y] : St))) y) (fun y => par_ret _)

def laws_toRange_g (args : List AV) (st : St) (k : K1) : Option Res :=
  onPats [.agg [.str, .str]] [] args st (fun p q => laws_toRange_k (p.1.1, p.1.2.1) (fun (y : (ByteArray × ByteArray)) => k (.agg [.str y.1, .str y.2]) []))
    (none)

theorem laws_toRange_q (a0 : ByteArray) (a1 : ByteArray) : Par (fun k : AV × St → Option Res => laws_toRange_g [.agg [.str a0, .str a1]] [] (fun v s => k (v, s))) :=
  (laws_toRange_p (a0, a1)).bind (H := fun (y : (ByteArray × ByteArray)) (k : AV × St → Option Res) => (fun (y : (ByteArray × ByteArray)) => k ((.agg [.str y.1, .str y.2] : AV), ([] : St))) y) (fun y => par_ret _)

def spec_InRange_g (args : List AV) (st : St) (k : K1) : Option Res :=
  onPats [.agg [.str, .str], .str] [] args st (fun p q => spec_InRange_k (p.1.1, p.1.2.1) p.2.1 (fun (y : Bool) => k (.bool y) []))
    (none)

theorem spec_InRange_q (a0 : ByteArray) (a1 : ByteArray) (a2 : ByteArray) : Par (fun k : AV × St → Option Res => spec_InRange_g [.agg [.str a0, .str a1], .str a2] [] (fun v s => k (v, s))) :=
  (spec_InRange_p (a0, a1) a2).bind (H := fun (y : Bool) (k : AV × St → Option Res) => (fun (y : Bool) => k ((.bool y : AV), ([] : St))) y) (fun y => par_ret _)

def spec_l06Keys_g (args : List AV) (st : St) (k : K1) : Option Res :=
  onPats [.lst tVersion, .agg [.str, .str]] [] args st (fun p q => spec_l06Keys_k p.1 (p.2.1.1, p.2.1.2.1) (fun (y : (List ByteArray)) => k (.own 0) [.arr .str y]))
    (none)

theorem spec_l06Keys_q (a0 : (List dVersion)) (a1 : ByteArray) (a2 : ByteArray) : Par (fun k : AV × St → Option Res => spec_l06Keys_g [.lst tVersion a0, .agg [.str a1, .str a2]] [] (fun v s => k (v, s))) :=
  (spec_l06Keys_p a0 (a1, a2)).bind (H := fun (y : (List ByteArray)) (k : AV × St → Option Res) => (fun (y : (List ByteArray)) => k ((.own 0 : AV), ([.arr .str y] : St))) y) (fun y => par_ret _)

def spec_l06At_g (args : List AV) (st : St) (k : K1) : Option Res :=
  onPats [.lst tVersion, .str, .int .i64] [] args st (fun p q => spec_l06At_k p.1 p.2.1 p.2.2.1 (fun (y : Int) => k (.int .i64 y) []))
    (none)

theorem spec_l06At_q (a0 : (List dVersion)) (a1 : ByteArray) (a2 : Int) : Par (fun k : AV × St → Option Res => spec_l06At_g [.lst tVersion a0, .str a1, .int .i64 a2] [] (fun v s => k (v, s))) :=
  (spec_l06At_p a0 a1 a2).bind (H := fun (y : Int) (k : AV × St → Option Res) => (fun (y : Int) => k ((.int .i64 y : AV), ([] : St))) y) (fun y => par_ret _)

def spec_SeenAt_g (args : List AV) (st : St) (k : K1) : Option Res :=
  onPats [.lst tVersion, .str, .int .i64] [] args st (fun p q => spec_SeenAt_k p.1 p.2.1 p.2.2.1 (fun (y : (ByteArray × Bool)) => k (.tup [.str y.1, .bool y.2]) []))
    (none)

theorem spec_SeenAt_q (a0 : (List dVersion)) (a1 : ByteArray) (a2 : Int) : Par (fun k : AV × St → Option Res => spec_SeenAt_g [.lst tVersion a0, .str a1, .int .i64 a2] [] (fun v s => k (v, s))) :=
  (spec_SeenAt_p a0 a1 a2).bind (H := fun (y : (ByteArray × Bool)) (k : AV × St → Option Res) => (fun (y : (ByteArray × Bool)) => k ((.tup [.str y.1, .bool y.2] : AV), ([] : St))) y) (fun y => par_ret _)

def spec_ScanAt_g (args : List AV) (st : St) (k : K1) : Option Res :=
  onPats [.lst tVersion, .agg [.str, .str], .int .i64] [] args st (fun p q => spec_ScanAt_k p.1 (p.2.1.1, p.2.1.2.1) p.2.2.1 (fun (y : (List dRange)) => k (.own 0) [.arr tRange y]))
    (none)

theorem spec_ScanAt_q (a0 : (List dVersion)) (a1 : ByteArray) (a2 : ByteArray) (a3 : Int) : Par (fun k : AV × St → Option Res => spec_ScanAt_g [.lst tVersion a0, .agg [.str a1, .str a2], .int .i64 a3] [] (fun v s => k (v, s))) :=
  (spec_ScanAt_p a0 (a1, a2) a3).bind (H := fun (y : (List dRange)) (k : AV × St → Option Res) => (fun (y : (List dRange)) => k ((.own 0 : AV), ([.arr tRange y] : St))) y) (fun y => par_ret _)

def slices_Sort_string_g (args : List AV) (st : St) (k : K1) : Option Res :=
  onPats [.own 0] [.arr .str] args st (fun p q => slices_Sort_string_vo_k q.1 (fun (y : (List ByteArray)) => k (.tup []) [.arr .str y]))
    (none)

theorem slices_Sort_string_vo_q (a0 : (List ByteArray)) : Par (fun k : AV × St → Option Res => slices_Sort_string_g [.own 0] [.arr .str a0] (fun v s => k (v, s))) :=
  (slices_Sort_string_vo_p a0).bind (H := fun (y : (List ByteArray)) (k : AV × St → Option Res) => (fun (y : (List ByteArray)) => k ((.tup [] : AV), ([.arr .str y] : St))) y) (fun y => par_ret _)

def slices_Compact_string_g (args : List AV) (st : St) (k : K1) : Option Res :=
  onPats [.own 0] [.arr .str] args st (fun p q => slices_Compact_string_vo_k q.1 (Sum.elim (fun (y : (List ByteArray)) => k (.own 0) [.arr .str y]) (fun (y : (List ByteArray)) => k (.own 1) [.gone, .arr .str y])))
    (none)

theorem slices_Compact_string_vo_q (a0 : (List ByteArray)) : Par (fun k : AV × St → Option Res => slices_Compact_string_g [.own 0] [.arr .str a0] (fun v s => k (v, s))) :=
  (slices_Compact_string_vo_p a0).bind (H := fun (y : ((List ByteArray) ⊕ (List ByteArray))) (k : AV × St → Option Res) => (Sum.elim (fun (y : (List ByteArray)) => k ((.own 0 : AV), ([.arr .str y] : St))) (fun (y : (List ByteArray)) => k ((.own 1 : AV), ([.gone, .arr .str y] : St)))) y) (fun y => by rcases y with y | y <;> exact par_ret _)

def impl_keysOf_g (args : List AV) (st : St) (k : K1) : Option Res :=
  onPats [.lst tVersion] [] args st (fun p q => impl_keysOf_k p.1 (fun (y : (List ByteArray)) => k (.own 0) [.arr .str y]))
    (none)

theorem impl_keysOf_q (a0 : (List dVersion)) : Par (fun k : AV × St → Option Res => impl_keysOf_g [.lst tVersion a0] [] (fun v s => k (v, s))) :=
  (impl_keysOf_p a0).bind (H := fun (y : (List ByteArray)) (k : AV × St → Option Res) => (fun (y : (List ByteArray)) => k ((.own 0 : AV), ([.arr .str y] : St))) y) (fun y => par_ret _)

def impl_lastAt_g (args : List AV) (st : St) (k : K1) : Option Res :=
  onPats [.lst tVersion, .str, .int .i64] [] args st (fun p q => impl_lastAt_k p.1 p.2.1 p.2.2.1 (fun (y : Int) => k (.int .i64 y) []))
    (none)

theorem impl_lastAt_q (a0 : (List dVersion)) (a1 : ByteArray) (a2 : Int) : Par (fun k : AV × St → Option Res => impl_lastAt_g [.lst tVersion a0, .str a1, .int .i64 a2] [] (fun v s => k (v, s))) :=
  (impl_lastAt_p a0 a1 a2).bind (H := fun (y : Int) (k : AV × St → Option Res) => (fun (y : Int) => k ((.int .i64 y : AV), ([] : St))) y) (fun y => par_ret _)

def impl_SeenAt_g (args : List AV) (st : St) (k : K1) : Option Res :=
  onPats [.lst tVersion, .str, .int .i64] [] args st (fun p q => impl_SeenAt_k p.1 p.2.1 p.2.2.1 (fun (y : (ByteArray × Bool)) => k (.tup [.str y.1, .bool y.2]) []))
    (none)

theorem impl_SeenAt_q (a0 : (List dVersion)) (a1 : ByteArray) (a2 : Int) : Par (fun k : AV × St → Option Res => impl_SeenAt_g [.lst tVersion a0, .str a1, .int .i64 a2] [] (fun v s => k (v, s))) :=
  (impl_SeenAt_p a0 a1 a2).bind (H := fun (y : (ByteArray × Bool)) (k : AV × St → Option Res) => (fun (y : (ByteArray × Bool)) => k ((.tup [.str y.1, .bool y.2] : AV), ([] : St))) y) (fun y => par_ret _)

def impl_InRange_g (args : List AV) (st : St) (k : K1) : Option Res :=
  onPats [.agg [.str, .str], .str] [] args st (fun p q => impl_InRange_k (p.1.1, p.1.2.1) p.2.1 (fun (y : Bool) => k (.bool y) []))
    (none)

theorem impl_InRange_q (a0 : ByteArray) (a1 : ByteArray) (a2 : ByteArray) : Par (fun k : AV × St → Option Res => impl_InRange_g [.agg [.str a0, .str a1], .str a2] [] (fun v s => k (v, s))) :=
  (impl_InRange_p (a0, a1) a2).bind (H := fun (y : Bool) (k : AV × St → Option Res) => (fun (y : Bool) => k ((.bool y : AV), ([] : St))) y) (fun y => par_ret _)

def impl_ScanAt_g (args : List AV) (st : St) (k : K1) : Option Res :=
  onPats [.lst tVersion, .agg [.str, .str], .int .i64] [] args st (fun p q => impl_ScanAt_k p.1 (p.2.1.1, p.2.1.2.1) p.2.2.1 (fun (y : (List dRange)) => k (.own 0) [.arr tRange y]))
    (none)

theorem impl_ScanAt_q (a0 : (List dVersion)) (a1 : ByteArray) (a2 : ByteArray) (a3 : Int) : Par (fun k : AV × St → Option Res => impl_ScanAt_g [.lst tVersion a0, .agg [.str a1, .str a2], .int .i64 a3] [] (fun v s => k (v, s))) :=
  (impl_ScanAt_p a0 (a1, a2) a3).bind (H := fun (y : (List dRange)) (k : AV × St → Option Res) => (fun (y : (List dRange)) => k ((.own 0 : AV), ([.arr tRange y] : St))) y) (fun y => par_ret _)

def laws_eqPair_g (args : List AV) (st : St) (k : K1) : Option Res :=
  onPats [.agg [.str, .str], .agg [.str, .str]] [] args st (fun p q => laws_eqPair_k (p.1.1, p.1.2.1) (p.2.1.1, p.2.1.2.1) (fun (y : Bool) => k (.bool y) []))
    (none)

theorem laws_eqPair_q (a0 : ByteArray) (a1 : ByteArray) (a2 : ByteArray) (a3 : ByteArray) : Par (fun k : AV × St → Option Res => laws_eqPair_g [.agg [.str a0, .str a1], .agg [.str a2, .str a3]] [] (fun v s => k (v, s))) :=
  (laws_eqPair_p (a0, a1) (a2, a3)).bind (H := fun (y : Bool) (k : AV × St → Option Res) => (fun (y : Bool) => k ((.bool y : AV), ([] : St))) y) (fun y => par_ret _)

def laws_eqPairS_g (args : List AV) (st : St) (k : K1) : Option Res :=
  onPats [.lst tRange, .lst tRange] [] args st (fun p q => laws_eqPairS_k p.1 p.2.1 (fun (y : Bool) => k (.bool y) []))
    (none)

theorem laws_eqPairS_q (a0 : (List dRange)) (a1 : (List dRange)) : Par (fun k : AV × St → Option Res => laws_eqPairS_g [.lst tRange a0, .lst tRange a1] [] (fun v s => k (v, s))) :=
  (laws_eqPairS_p a0 a1).bind (H := fun (y : Bool) (k : AV × St → Option Res) => (fun (y : Bool) => k ((.bool y : AV), ([] : St))) y) (fun y => par_ret _)

def laws_eqVersion_g (args : List AV) (st : St) (k : K1) : Option Res :=
  onPats [.agg [.str, .str, .bool, .int .i64], .agg [.str, .str, .bool, .int .i64]] [] args st (fun p q => laws_eqVersion_k (p.1.1, (p.1.2.1, (p.1.2.2.1, p.1.2.2.2.1))) (p.2.1.1, (p.2.1.2.1, (p.2.1.2.2.1, p.2.1.2.2.2.1))) (fun (y : Bool) => k (.bool y) []))
    (none)

theorem laws_eqVersion_q (a0 : ByteArray) (a1 : ByteArray) (a2 : Bool) (a3 : Int) (a4 : ByteArray) (a5 : ByteArray) (a6 : Bool) (a7 : Int) : Par (fun k : AV × St → Option Res => laws_eqVersion_g [.agg [.str a0, .str a1, .bool a2, .int .i64 a3], .agg [.str a4, .str a5, .bool a6, .int .i64 a7]] [] (fun v s => k (v, s))) :=
  (laws_eqVersion_p (a0, (a1, (a2, a3))) (a4, (a5, (a6, a7)))).bind (H := fun (y : Bool) (k : AV × St → Option Res) => (fun (y : Bool) => k ((.bool y : AV), ([] : St))) y) (fun y => par_ret _)

def laws_eqVersionS_g (args : List AV) (st : St) (k : K1) : Option Res :=
  onPats [.lst tVersion, .lst tVersion] [] args st (fun p q => laws_eqVersionS_k p.1 p.2.1 (fun (y : Bool) => k (.bool y) []))
    (none)

theorem laws_eqVersionS_q (a0 : (List dVersion)) (a1 : (List dVersion)) : Par (fun k : AV × St → Option Res => laws_eqVersionS_g [.lst tVersion a0, .lst tVersion a1] [] (fun v s => k (v, s))) :=
  (laws_eqVersionS_p a0 a1).bind (H := fun (y : Bool) (k : AV × St → Option Res) => (fun (y : Bool) => k ((.bool y : AV), ([] : St))) y) (fun y => par_ret _)

def laws_markText_g (args : List AV) (st : St) (k : K1) : Option Res :=
  onPats [.int .i64] [] args st (fun p q => laws_markText_k p.1 (fun (y : ByteArray) => k (.str y) []))
    (none)

theorem laws_markText_q (a0 : Int) : Par (fun k : AV × St → Option Res => laws_markText_g [.int .i64 a0] [] (fun v s => k (v, s))) :=
  (laws_markText_p a0).bind (H := fun (y : ByteArray) (k : AV × St → Option Res) => (fun (y : ByteArray) => k ((.str y : AV), ([] : St))) y) (fun y => par_ret _)

def laws_markVersionS_g (args : List AV) (st : St) (k : K1) : Option Res :=
  onPats [.own 0, .int .i64] [.arr tVersion] args st (fun p q => laws_markVersionS_vo_k p.2.1 q.1 (fun (y : (Int × (List dVersion))) => k (.int .i64 y.1) [.arr tVersion y.2]))
    (none)

theorem laws_markVersionS_vo_q (a0 : Int) (a1 : (List dVersion)) : Par (fun k : AV × St → Option Res => laws_markVersionS_g [.own 0, .int .i64 a0] [.arr tVersion a1] (fun v s => k (v, s))) :=
  (laws_markVersionS_vo_p a0 a1).bind (H := fun (y : (Int × (List dVersion))) (k : AV × St → Option Res) => (fun (y : (Int × (List dVersion))) => k ((.int .i64 y.1 : AV), ([.arr tVersion y.2] : St))) y) (fun y => par_ret _)

def laws_markPairS_g (args : List AV) (st : St) (k : K1) : Option Res :=
  onPats [.own 0, .int .i64] [.arr tRange] args st (fun p q => laws_markPairS_vo_k p.2.1 q.1 (fun (y : (Int × (List dRange))) => k (.int .i64 y.1) [.arr tRange y.2]))
    (none)

theorem laws_markPairS_vo_q (a0 : Int) (a1 : (List dRange)) : Par (fun k : AV × St → Option Res => laws_markPairS_g [.own 0, .int .i64 a0] [.arr tRange a1] (fun v s => k (v, s))) :=
  (laws_markPairS_vo_p a0 a1).bind (H := fun (y : (Int × (List dRange))) (k : AV × St → Option Res) => (fun (y : (Int × (List dRange))) => k ((.int .i64 y.1 : AV), ([.arr tRange y.2] : St))) y) (fun y => par_ret _)

def laws_heldPairS_g (args : List AV) (st : St) (k : K1) : Option Res :=
  onPats [.lst tRange, .int .i64] [] args st (fun p q => laws_heldPairS_k p.1 p.2.1 (fun (y : Int) => k (.int .i64 y) []))
    (none)

theorem laws_heldPairS_q (a0 : (List dRange)) (a1 : Int) : Par (fun k : AV × St → Option Res => laws_heldPairS_g [.lst tRange a0, .int .i64 a1] [] (fun v s => k (v, s))) :=
  (laws_heldPairS_p a0 a1).bind (H := fun (y : Int) (k : AV × St → Option Res) => (fun (y : Int) => k ((.int .i64 y : AV), ([] : St))) y) (fun y => par_ret _)

def laws_FnExactScanAt_g (args : List AV) (st : St) (k : K1) : Option Res :=
  onPats [.lst tVersion, .agg [.str, .str], .int .i64] [] args st (fun p q => laws_FnExactScanAt_k p.1 (p.2.1.1, p.2.1.2.1) p.2.2.1 (fun (y : Bool) => k (.bool y) []))
    (none)

theorem laws_FnExactScanAt_q (a0 : (List dVersion)) (a1 : ByteArray) (a2 : ByteArray) (a3 : Int) : Par (fun k : AV × St → Option Res => laws_FnExactScanAt_g [.lst tVersion a0, .agg [.str a1, .str a2], .int .i64 a3] [] (fun v s => k (v, s))) :=
  (laws_FnExactScanAt_p a0 (a1, a2) a3).bind (H := fun (y : Bool) (k : AV × St → Option Res) => (fun (y : Bool) => k ((.bool y : AV), ([] : St))) y) (fun y => par_ret _)

end

end Go.VE
