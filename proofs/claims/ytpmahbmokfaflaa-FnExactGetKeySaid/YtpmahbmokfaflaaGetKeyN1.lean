/- Native programs of the functions, written by gen.py. -/

import Derived.Test.YtpmahbmokfaflaaT0

namespace Go.VE

noncomputable section

set_option linter.unusedVariables false
set_option linter.unusedSimpArgs false
set_option maxRecDepth 100000


abbrev q0T : Type := ((List dRange) × (List dRange) × Bool × Int)
abbrev q1T : Type := ((List dRange) × Int × (List dRange))
abbrev q2T : Type := ((List dRange) × Int × Int × Int × ByteArray × ByteArray)
abbrev q3T : Type := ((List dRange) × Int × Int × Int)
abbrev q4T : Type := ((List dTxn) × (List dTxn) × Bool × Int)
abbrev q5T : Type := ((List dTxn) × Int × (List dTxn))
abbrev q6T : Type := ((List dTxn) × Int × Int × (List dTxn))
abbrev q7T : Type := ((List dTxn) × Int × Int × Int × Int)
abbrev q8T : Type := ((List dTxn) × Int × Int × Int)
abbrev q9T : Type := ((List dVersion) × (List dVersion) × Bool × Int)
abbrev q10T : Type := ((List dVersion) × ByteArray × ByteArray × Bool × Int × Int × Int × Int × Int × (List dRange) × (List dWrite) × Bool × ByteArray)
abbrev q11T : Type := ((List dVersion) × ByteArray × Int × Int × (List dVersion) × Int × Int)
abbrev q12T : Type := ((List dVersion) × ByteArray × Int × Int × Int)
abbrev q13T : Type := ((List dVersion) × Int × (List dVersion))
abbrev q14T : Type := ((List dVersion) × Int × Int × Int)
abbrev q15T : Type := ((List dWrite) × (List dWrite) × Bool × Int)
abbrev q16T : Type := ((List dWrite) × Bool × (List dWrite) × Int × Int)
abbrev q17T : Type := ((List dWrite) × Int × (List dWrite))
abbrev q18T : Type := ((List dWrite) × Int × Int × Int × ByteArray)
abbrev q19T : Type := ((List dWrite) × Int × Int × Int)
abbrev q20T : Type := (Bool × (List dRange) × Int × Int × Int × Int × Int × Int × (List dRange) × (List dWrite) × Bool × ByteArray)
abbrev q21T : Type := (Bool × (List dVersion) × (List dTxn) × (List dTxn) × (List dTxn))
abbrev q22T : Type := (Bool × Int × Int × (List dVersion) × (List dTxn) × (List dTxn) × (List dTxn))
abbrev q23T : Type := (Bool × Int × Int × Int × (List dVersion) × (List dTxn) × (List dTxn) × (List dTxn))
abbrev q24T : Type := (Bool × Int × Int × Int × Int × (List dRange) × (List dWrite) × Bool × ByteArray × ByteArray × ByteArray × Int × Int × Int × Int × Bool × ByteArray × Int × Int × Int × Int × Bool × ByteArray × (List dRange) × (List dWrite) × (List dRange) × (List dWrite))
abbrev q25T : Type := (Bool × Int × Int × Int × Int × (List dRange) × (List dWrite) × Bool × ByteArray × ByteArray × ByteArray × Int × Int × Int × Int × Bool × ByteArray × Int × Int × Int × Int × Bool × ByteArray × (List dRange) × (List dWrite))
abbrev q26T : Type := (Bool × Int × Int × Int × Int × (List dRange) × (List dWrite) × Bool × ByteArray)
abbrev q27T : Type := (Bool × Int × Int × Int × Int × Int × (List dRange) × (List dWrite) × Bool × ByteArray × ByteArray × ByteArray × Int × Int × Int × Int × Bool × ByteArray × Int × Int × Int × Int × Bool × ByteArray × (List dRange) × (List dWrite) × (List dRange) × (List dWrite))
abbrev q28T : Type := (Bool × Int × Int × Int × Int × Int × (List dRange) × (List dWrite) × Bool × ByteArray × ByteArray × ByteArray × Int × Int × Int × Int × Bool × ByteArray × Int × Int × Int × Int × Bool × ByteArray × (List dRange) × (List dWrite))
abbrev q29T : Type := (Bool × Int × Int × Int × Int × Int × (List dRange) × (List dWrite) × Bool × ByteArray)
abbrev q30T : Type := (ByteArray × ByteArray × Bool × Int)
abbrev q31T : Type := (Int × (List dVersion) × (List dTxn) × (List dTxn) × (List dTxn))
abbrev q32T : Type := (Int × (List dVersion) × (List dTxn) × (List dTxn))
abbrev q33T : Type := (Int × ByteArray × Bool × ByteArray × Bool × Int × (List dVersion) × (List dTxn) × (List dTxn) × Int × Int × (List dTxn) × Int × Int × Int × Int × (List dVersion) × (List dTxn) × (List dTxn) × (List dTxn) × (List dVersion) × (List dTxn) × (List dTxn) × (List dTxn))
abbrev q34T : Type := (Int × ByteArray × Bool × ByteArray × Bool × Int × ByteArray × Bool × Int × (List dVersion) × (List dTxn) × (List dTxn) × Int × Int × (List dTxn) × Int × Int × Int × Int × Int × Int × (List dVersion) × (List dTxn) × (List dTxn) × (List dTxn) × (List dVersion) × (List dTxn) × (List dTxn) × (List dTxn) × (List dVersion) × (List dTxn) × (List dTxn) × (List dTxn))
abbrev q35T : Type := (Int × Int × (List dVersion) × (List dTxn) × (List dTxn) × (List dTxn))
abbrev q36T : Type := (Int × Int × (List dVersion) × (List dTxn) × (List dTxn))
abbrev q37T : Type := (Int × Int × ByteArray × Bool × Int × (List dVersion) × (List dTxn) × (List dTxn) × (List dTxn))
abbrev q38T : Type := (Int × Int × Int × (List dVersion) × (List dTxn) × (List dTxn) × Int × Int × (List dTxn))
abbrev q39T : Type := (Int × Int × Int × Int × (List dVersion) × (List dTxn) × (List dTxn) × (List dTxn))
abbrev q40T : Type := (Int × Int × Int × Int × Bool × ByteArray × (List dRange) × (List dWrite))
abbrev q41T : Type := (Int × Int × Int × Int × Bool × ByteArray × Bool × (List dRange) × (List dWrite))

def n50n_d (a0 : dVersion) (a1 : Int) (k : Int → Option Res) : Option Res :=
  bif (decide ((IntKind.wrap .i64 (a1 - (a0.1.size : Int))) < (0 : Int))) then
    k (-1 : Int)
  else
    bif (decide ((IntKind.wrap .i64 ((IntKind.wrap .i64 (a1 - (a0.1.size : Int))) - (a0.2.1.size : Int))) < (0 : Int))) then
      k (-1 : Int)
    else
      k (IntKind.wrap .i64 ((IntKind.wrap .i64 (a1 - (a0.1.size : Int))) - (a0.2.1.size : Int)))

def n50n_k := shut n50n_d
theorem n50n_e : n50n_k = n50n_d := shut_eq _

theorem n50n_p (a0 : dVersion) (a1 : Int) : Par (n50n_k a0 a1) := by
  rw [n50n_e]
  unfold n50n_d
  exact (par_bif (par_ret _) (par_bif (par_ret _) (par_ret _)))

def n51n_b0 (x : q14T) (k : q14T ⊕ (q14T ⊕ q14T) → Option Res) : Option Res :=
    bif (decide (x.2.2.2 < (x.1.length : Int))) then
      if 0 ≤ x.2.2.2 ∧ x.2.2.2 < (x.1.length : Int) then
        n50n_k (rd (Ty.zero tVersion) x.1 x.2.2.2) x.2.1 (fun y3 =>
          bif (decide (y3 < (0 : Int))) then
            k (.inr (.inl (x.1, y3, (-1 : Int), x.2.2.2)))
          else
            k (.inl (x.1, y3, x.2.2.1, (IntKind.wrap .i64 (x.2.2.2 + (1 : Int))))))
      else none
    else
      k (.inr (.inr (x.1, x.2.1, x.2.2.1, x.2.2.2)))

theorem n51n_bp0 (x : q14T) : Par (n51n_b0 x) := by
  unfold n51n_b0
  exact (par_bif (par_ite (c := 0 ≤ x.2.2.2 ∧ x.2.2.2 < (x.1.length : Int)) ((n50n_p (rd (Ty.zero tVersion) x.1 x.2.2.2) x.2.1).bind fun y3 => (par_bif (par_ret _) (par_ret _))) par_none) (par_ret _))

def n51n_d (a0 : (List dVersion)) (a1 : Int) (k : Int → Option Res) : Option Res :=
  bif (decide ((IntKind.wrap .i64 (a1 - (a0.length : Int))) < (0 : Int))) then
    k (-1 : Int)
  else
    loopK n51n_b0 Fuel (a0, (IntKind.wrap .i64 (a1 - (a0.length : Int))), (0 : Int), (0 : Int)) (Sum.elim (fun z1 =>
      k z1.2.2.1) (fun z2 =>
      k z2.2.1))

def n51n_k := shut n51n_d
theorem n51n_e : n51n_k = n51n_d := shut_eq _

theorem n51n_p (a0 : (List dVersion)) (a1 : Int) : Par (n51n_k a0 a1) := by
  rw [n51n_e]
  unfold n51n_d
  exact (par_bif (par_ret _) ((par_loop n51n_bp0 Fuel (a0, (IntKind.wrap .i64 (a1 - (a0.length : Int))), (0 : Int), (0 : Int))).bind2 (fun z1 => (par_ret _)) (fun z2 => (par_ret _))))

def n46n_d (a0 : dRange) (a1 : Int) (k : Int → Option Res) : Option Res :=
  bif (decide ((IntKind.wrap .i64 (a1 - (a0.1.size : Int))) < (0 : Int))) then
    k (-1 : Int)
  else
    bif (decide ((IntKind.wrap .i64 ((IntKind.wrap .i64 (a1 - (a0.1.size : Int))) - (a0.2.size : Int))) < (0 : Int))) then
      k (-1 : Int)
    else
      k (IntKind.wrap .i64 ((IntKind.wrap .i64 (a1 - (a0.1.size : Int))) - (a0.2.size : Int)))

def n46n_k := shut n46n_d
theorem n46n_e : n46n_k = n46n_d := shut_eq _

theorem n46n_p (a0 : dRange) (a1 : Int) : Par (n46n_k a0 a1) := by
  rw [n46n_e]
  unfold n46n_d
  exact (par_bif (par_ret _) (par_bif (par_ret _) (par_ret _)))

def n47n_b0 (x : q3T) (k : q3T ⊕ (q3T ⊕ q3T) → Option Res) : Option Res :=
    bif (decide (x.2.2.2 < (x.1.length : Int))) then
      if 0 ≤ x.2.2.2 ∧ x.2.2.2 < (x.1.length : Int) then
        n46n_k (rd (Ty.zero tRange) x.1 x.2.2.2) x.2.1 (fun y3 =>
          bif (decide (y3 < (0 : Int))) then
            k (.inr (.inl (x.1, y3, (-1 : Int), x.2.2.2)))
          else
            k (.inl (x.1, y3, x.2.2.1, (IntKind.wrap .i64 (x.2.2.2 + (1 : Int))))))
      else none
    else
      k (.inr (.inr (x.1, x.2.1, x.2.2.1, x.2.2.2)))

theorem n47n_bp0 (x : q3T) : Par (n47n_b0 x) := by
  unfold n47n_b0
  exact (par_bif (par_ite (c := 0 ≤ x.2.2.2 ∧ x.2.2.2 < (x.1.length : Int)) ((n46n_p (rd (Ty.zero tRange) x.1 x.2.2.2) x.2.1).bind fun y3 => (par_bif (par_ret _) (par_ret _))) par_none) (par_ret _))

def n47n_d (a0 : (List dRange)) (a1 : Int) (k : Int → Option Res) : Option Res :=
  bif (decide ((IntKind.wrap .i64 (a1 - (a0.length : Int))) < (0 : Int))) then
    k (-1 : Int)
  else
    loopK n47n_b0 Fuel (a0, (IntKind.wrap .i64 (a1 - (a0.length : Int))), (0 : Int), (0 : Int)) (Sum.elim (fun z1 =>
      k z1.2.2.1) (fun z2 =>
      k z2.2.1))

def n47n_k := shut n47n_d
theorem n47n_e : n47n_k = n47n_d := shut_eq _

theorem n47n_p (a0 : (List dRange)) (a1 : Int) : Par (n47n_k a0 a1) := by
  rw [n47n_e]
  unfold n47n_d
  exact (par_bif (par_ret _) ((par_loop n47n_bp0 Fuel (a0, (IntKind.wrap .i64 (a1 - (a0.length : Int))), (0 : Int), (0 : Int))).bind2 (fun z1 => (par_ret _)) (fun z2 => (par_ret _))))

def n52n_d (a0 : dWrite) (a1 : Int) (k : Int → Option Res) : Option Res :=
  bif (decide ((IntKind.wrap .i64 (a1 - (a0.1.size : Int))) < (0 : Int))) then
    k (-1 : Int)
  else
    bif (decide ((IntKind.wrap .i64 ((IntKind.wrap .i64 (a1 - (a0.1.size : Int))) - (a0.2.1.size : Int))) < (0 : Int))) then
      k (-1 : Int)
    else
      k (IntKind.wrap .i64 ((IntKind.wrap .i64 (a1 - (a0.1.size : Int))) - (a0.2.1.size : Int)))

def n52n_k := shut n52n_d
theorem n52n_e : n52n_k = n52n_d := shut_eq _

theorem n52n_p (a0 : dWrite) (a1 : Int) : Par (n52n_k a0 a1) := by
  rw [n52n_e]
  unfold n52n_d
  exact (par_bif (par_ret _) (par_bif (par_ret _) (par_ret _)))

def n53n_b0 (x : q19T) (k : q19T ⊕ (q19T ⊕ q19T) → Option Res) : Option Res :=
    bif (decide (x.2.2.2 < (x.1.length : Int))) then
      if 0 ≤ x.2.2.2 ∧ x.2.2.2 < (x.1.length : Int) then
        n52n_k (rd (Ty.zero tWrite) x.1 x.2.2.2) x.2.1 (fun y3 =>
          bif (decide (y3 < (0 : Int))) then
            k (.inr (.inl (x.1, y3, (-1 : Int), x.2.2.2)))
          else
            k (.inl (x.1, y3, x.2.2.1, (IntKind.wrap .i64 (x.2.2.2 + (1 : Int))))))
      else none
    else
      k (.inr (.inr (x.1, x.2.1, x.2.2.1, x.2.2.2)))

theorem n53n_bp0 (x : q19T) : Par (n53n_b0 x) := by
  unfold n53n_b0
  exact (par_bif (par_ite (c := 0 ≤ x.2.2.2 ∧ x.2.2.2 < (x.1.length : Int)) ((n52n_p (rd (Ty.zero tWrite) x.1 x.2.2.2) x.2.1).bind fun y3 => (par_bif (par_ret _) (par_ret _))) par_none) (par_ret _))

def n53n_d (a0 : (List dWrite)) (a1 : Int) (k : Int → Option Res) : Option Res :=
  bif (decide ((IntKind.wrap .i64 (a1 - (a0.length : Int))) < (0 : Int))) then
    k (-1 : Int)
  else
    loopK n53n_b0 Fuel (a0, (IntKind.wrap .i64 (a1 - (a0.length : Int))), (0 : Int), (0 : Int)) (Sum.elim (fun z1 =>
      k z1.2.2.1) (fun z2 =>
      k z2.2.1))

def n53n_k := shut n53n_d
theorem n53n_e : n53n_k = n53n_d := shut_eq _

theorem n53n_p (a0 : (List dWrite)) (a1 : Int) : Par (n53n_k a0 a1) := by
  rw [n53n_e]
  unfold n53n_d
  exact (par_bif (par_ret _) ((par_loop n53n_bp0 Fuel (a0, (IntKind.wrap .i64 (a1 - (a0.length : Int))), (0 : Int), (0 : Int))).bind2 (fun z1 => (par_ret _)) (fun z2 => (par_ret _))))

def n48n_d (a0 : dTxn) (a1 : Int) (k : Int → Option Res) : Option Res :=
  n47n_k a0.2.2.2.2.1 a1 (fun y1 =>
    bif (decide (y1 < (0 : Int))) then
      k (-1 : Int)
    else
      n53n_k a0.2.2.2.2.2.1 y1 (fun y2 =>
        bif (decide (y2 < (0 : Int))) then
          k (-1 : Int)
        else
          bif (decide ((IntKind.wrap .i64 (y2 - (a0.2.2.2.2.2.2.2.size : Int))) < (0 : Int))) then
            k (-1 : Int)
          else
            k (IntKind.wrap .i64 (y2 - (a0.2.2.2.2.2.2.2.size : Int)))))

def n48n_k := shut n48n_d
theorem n48n_e : n48n_k = n48n_d := shut_eq _

theorem n48n_p (a0 : dTxn) (a1 : Int) : Par (n48n_k a0 a1) := by
  rw [n48n_e]
  unfold n48n_d
  exact ((n47n_p a0.2.2.2.2.1 a1).bind fun y1 => (par_bif (par_ret _) ((n53n_p a0.2.2.2.2.2.1 y1).bind fun y2 => (par_bif (par_ret _) (par_bif (par_ret _) (par_ret _))))))

def n49n_b0 (x : q8T) (k : q8T ⊕ (q8T ⊕ q8T) → Option Res) : Option Res :=
    bif (decide (x.2.2.2 < (x.1.length : Int))) then
      if 0 ≤ x.2.2.2 ∧ x.2.2.2 < (x.1.length : Int) then
        n48n_k (rd (Ty.zero tTxn) x.1 x.2.2.2) x.2.1 (fun y3 =>
          bif (decide (y3 < (0 : Int))) then
            k (.inr (.inl (x.1, y3, (-1 : Int), x.2.2.2)))
          else
            k (.inl (x.1, y3, x.2.2.1, (IntKind.wrap .i64 (x.2.2.2 + (1 : Int))))))
      else none
    else
      k (.inr (.inr (x.1, x.2.1, x.2.2.1, x.2.2.2)))

theorem n49n_bp0 (x : q8T) : Par (n49n_b0 x) := by
  unfold n49n_b0
  exact (par_bif (par_ite (c := 0 ≤ x.2.2.2 ∧ x.2.2.2 < (x.1.length : Int)) ((n48n_p (rd (Ty.zero tTxn) x.1 x.2.2.2) x.2.1).bind fun y3 => (par_bif (par_ret _) (par_ret _))) par_none) (par_ret _))

def n49n_d (a0 : (List dTxn)) (a1 : Int) (k : Int → Option Res) : Option Res :=
  bif (decide ((IntKind.wrap .i64 (a1 - (a0.length : Int))) < (0 : Int))) then
    k (-1 : Int)
  else
    loopK n49n_b0 Fuel (a0, (IntKind.wrap .i64 (a1 - (a0.length : Int))), (0 : Int), (0 : Int)) (Sum.elim (fun z1 =>
      k z1.2.2.1) (fun z2 =>
      k z2.2.1))

def n49n_k := shut n49n_d
theorem n49n_e : n49n_k = n49n_d := shut_eq _

theorem n49n_p (a0 : (List dTxn)) (a1 : Int) : Par (n49n_k a0 a1) := by
  rw [n49n_e]
  unfold n49n_d
  exact (par_bif (par_ret _) ((par_loop n49n_bp0 Fuel (a0, (IntKind.wrap .i64 (a1 - (a0.length : Int))), (0 : Int), (0 : Int))).bind2 (fun z1 => (par_ret _)) (fun z2 => (par_ret _))))

def n44n_d (a0 : dBase) (a1 : Int) (k : Int → Option Res) : Option Res :=
  n51n_k a0.1 a1 (fun y1 =>
    bif (decide (y1 < (0 : Int))) then
      k (-1 : Int)
    else
      n49n_k a0.2.1 y1 (fun y2 =>
        bif (decide (y2 < (0 : Int))) then
          k (-1 : Int)
        else
          n49n_k a0.2.2.1 y2 (fun y3 =>
            bif (decide (y3 < (0 : Int))) then
              k (-1 : Int)
            else
              k y3)))

def n44n_k := shut n44n_d
theorem n44n_e : n44n_k = n44n_d := shut_eq _

theorem n44n_p (a0 : dBase) (a1 : Int) : Par (n44n_k a0 a1) := by
  rw [n44n_e]
  unfold n44n_d
  exact ((n51n_p a0.1 a1).bind fun y1 => (par_bif (par_ret _) ((n49n_p a0.2.1 y1).bind fun y2 => (par_bif (par_ret _) ((n49n_p a0.2.2.1 y2).bind fun y3 => (par_bif (par_ret _) (par_ret _)))))))

def n45n_d (a0 : dEngine) (a1 : Int) (k : Int → Option Res) : Option Res :=
  n44n_k a0.1 a1 (fun y1 =>
    bif (decide (y1 < (0 : Int))) then
      k (-1 : Int)
    else
      n49n_k a0.2 y1 (fun y2 =>
        bif (decide (y2 < (0 : Int))) then
          k (-1 : Int)
        else
          k y2))

def n45n_k := shut n45n_d
theorem n45n_e : n45n_k = n45n_d := shut_eq _

theorem n45n_p (a0 : dEngine) (a1 : Int) : Par (n45n_k a0 a1) := by
  rw [n45n_e]
  unfold n45n_d
  exact ((n44n_p a0.1 a1).bind fun y1 => (par_bif (par_ret _) ((n49n_p a0.2 y1).bind fun y2 => (par_bif (par_ret _) (par_ret _)))))

def n60n_d (a0 : dVersion) (k : q30T → Option Res) : Option Res :=
  k (a0.1, a0.2.1, a0.2.2.1, a0.2.2.2)

def n60n_k := shut n60n_d
theorem n60n_e : n60n_k = n60n_d := shut_eq _

theorem n60n_p (a0 : dVersion) : Par (n60n_k a0) := by
  rw [n60n_e]
  unfold n60n_d
  exact (par_ret _)

def n61n_b0 (x : q13T) (k : q13T ⊕ q13T → Option Res) : Option Res :=
    bif (decide (x.2.1 < (x.1.length : Int))) then
      if 0 ≤ x.2.1 ∧ x.2.1 < (x.1.length : Int) then
        n60n_k (rd (Ty.zero tVersion) x.1 x.2.1) (fun y2 =>
          if 0 ≤ x.2.1 ∧ x.2.1 < (x.2.2.length : Int) then
            k (.inl (x.1, (IntKind.wrap .i64 (x.2.1 + (1 : Int))), (x.2.2.set x.2.1.toNat y2)))
          else none)
      else none
    else
      k (.inr (x.1, x.2.1, x.2.2))

theorem n61n_bp0 (x : q13T) : Par (n61n_b0 x) := by
  unfold n61n_b0
  exact (par_bif (par_ite (c := 0 ≤ x.2.1 ∧ x.2.1 < (x.1.length : Int)) ((n60n_p (rd (Ty.zero tVersion) x.1 x.2.1)).bind fun y2 => (par_ite (c := 0 ≤ x.2.1 ∧ x.2.1 < (x.2.2.length : Int)) (par_ret _) par_none)) par_none) (par_ret _))

def n61n_d (a0 : (List dVersion)) (k : (List dVersion) → Option Res) : Option Res :=
  if 0 ≤ (a0.length : Int) ∧ (a0.length : Int) ≤ (a0.length : Int) ∧ (a0.length : Int) ≤ (VE.maxLen : Int) then
    loopK n61n_b0 Fuel (a0, (0 : Int), (List.replicate (a0.length : Int).toNat (Ty.zero tVersion))) (fun z1 =>
      k z1.2.2)
  else none

def n61n_k := shut n61n_d
theorem n61n_e : n61n_k = n61n_d := shut_eq _

theorem n61n_p (a0 : (List dVersion)) : Par (n61n_k a0) := by
  rw [n61n_e]
  unfold n61n_d
  exact (par_ite (c := 0 ≤ (a0.length : Int) ∧ (a0.length : Int) ≤ (a0.length : Int) ∧ (a0.length : Int) ≤ (VE.maxLen : Int)) ((par_loop n61n_bp0 Fuel (a0, (0 : Int), (List.replicate (a0.length : Int).toNat (Ty.zero tVersion)))).bind fun z1 => (par_ret _)) par_none)

def n56n_d (a0 : dRange) (k : (ByteArray × ByteArray) → Option Res) : Option Res :=
  k (a0.1, a0.2)

def n56n_k := shut n56n_d
theorem n56n_e : n56n_k = n56n_d := shut_eq _

theorem n56n_p (a0 : dRange) : Par (n56n_k a0) := by
  rw [n56n_e]
  unfold n56n_d
  exact (par_ret _)

def n57n_b0 (x : q1T) (k : q1T ⊕ q1T → Option Res) : Option Res :=
    bif (decide (x.2.1 < (x.1.length : Int))) then
      if 0 ≤ x.2.1 ∧ x.2.1 < (x.1.length : Int) then
        n56n_k (rd (Ty.zero tRange) x.1 x.2.1) (fun y2 =>
          if 0 ≤ x.2.1 ∧ x.2.1 < (x.2.2.length : Int) then
            k (.inl (x.1, (IntKind.wrap .i64 (x.2.1 + (1 : Int))), (x.2.2.set x.2.1.toNat y2)))
          else none)
      else none
    else
      k (.inr (x.1, x.2.1, x.2.2))

theorem n57n_bp0 (x : q1T) : Par (n57n_b0 x) := by
  unfold n57n_b0
  exact (par_bif (par_ite (c := 0 ≤ x.2.1 ∧ x.2.1 < (x.1.length : Int)) ((n56n_p (rd (Ty.zero tRange) x.1 x.2.1)).bind fun y2 => (par_ite (c := 0 ≤ x.2.1 ∧ x.2.1 < (x.2.2.length : Int)) (par_ret _) par_none)) par_none) (par_ret _))

def n57n_d (a0 : (List dRange)) (k : (List dRange) → Option Res) : Option Res :=
  if 0 ≤ (a0.length : Int) ∧ (a0.length : Int) ≤ (a0.length : Int) ∧ (a0.length : Int) ≤ (VE.maxLen : Int) then
    loopK n57n_b0 Fuel (a0, (0 : Int), (List.replicate (a0.length : Int).toNat (Ty.zero tRange))) (fun z1 =>
      k z1.2.2)
  else none

def n57n_k := shut n57n_d
theorem n57n_e : n57n_k = n57n_d := shut_eq _

theorem n57n_p (a0 : (List dRange)) : Par (n57n_k a0) := by
  rw [n57n_e]
  unfold n57n_d
  exact (par_ite (c := 0 ≤ (a0.length : Int) ∧ (a0.length : Int) ≤ (a0.length : Int) ∧ (a0.length : Int) ≤ (VE.maxLen : Int)) ((par_loop n57n_bp0 Fuel (a0, (0 : Int), (List.replicate (a0.length : Int).toNat (Ty.zero tRange)))).bind fun z1 => (par_ret _)) par_none)

def n62n_d (a0 : dWrite) (k : (ByteArray × ByteArray × Bool) → Option Res) : Option Res :=
  k (a0.1, a0.2.1, a0.2.2)

def n62n_k := shut n62n_d
theorem n62n_e : n62n_k = n62n_d := shut_eq _

theorem n62n_p (a0 : dWrite) : Par (n62n_k a0) := by
  rw [n62n_e]
  unfold n62n_d
  exact (par_ret _)

def n63n_b0 (x : q17T) (k : q17T ⊕ q17T → Option Res) : Option Res :=
    bif (decide (x.2.1 < (x.1.length : Int))) then
      if 0 ≤ x.2.1 ∧ x.2.1 < (x.1.length : Int) then
        n62n_k (rd (Ty.zero tWrite) x.1 x.2.1) (fun y2 =>
          if 0 ≤ x.2.1 ∧ x.2.1 < (x.2.2.length : Int) then
            k (.inl (x.1, (IntKind.wrap .i64 (x.2.1 + (1 : Int))), (x.2.2.set x.2.1.toNat y2)))
          else none)
      else none
    else
      k (.inr (x.1, x.2.1, x.2.2))

theorem n63n_bp0 (x : q17T) : Par (n63n_b0 x) := by
  unfold n63n_b0
  exact (par_bif (par_ite (c := 0 ≤ x.2.1 ∧ x.2.1 < (x.1.length : Int)) ((n62n_p (rd (Ty.zero tWrite) x.1 x.2.1)).bind fun y2 => (par_ite (c := 0 ≤ x.2.1 ∧ x.2.1 < (x.2.2.length : Int)) (par_ret _) par_none)) par_none) (par_ret _))

def n63n_d (a0 : (List dWrite)) (k : (List dWrite) → Option Res) : Option Res :=
  if 0 ≤ (a0.length : Int) ∧ (a0.length : Int) ≤ (a0.length : Int) ∧ (a0.length : Int) ≤ (VE.maxLen : Int) then
    loopK n63n_b0 Fuel (a0, (0 : Int), (List.replicate (a0.length : Int).toNat (Ty.zero tWrite))) (fun z1 =>
      k z1.2.2)
  else none

def n63n_k := shut n63n_d
theorem n63n_e : n63n_k = n63n_d := shut_eq _

theorem n63n_p (a0 : (List dWrite)) : Par (n63n_k a0) := by
  rw [n63n_e]
  unfold n63n_d
  exact (par_ite (c := 0 ≤ (a0.length : Int) ∧ (a0.length : Int) ≤ (a0.length : Int) ∧ (a0.length : Int) ≤ (VE.maxLen : Int)) ((par_loop n63n_bp0 Fuel (a0, (0 : Int), (List.replicate (a0.length : Int).toNat (Ty.zero tWrite)))).bind fun z1 => (par_ret _)) par_none)

def n58n_d (a0 : dTxn) (k : q40T → Option Res) : Option Res :=
  n57n_k a0.2.2.2.2.1 (fun y1 =>
    n63n_k a0.2.2.2.2.2.1 (fun y2 =>
      k (a0.1, a0.2.1, a0.2.2.1, a0.2.2.2.1, a0.2.2.2.2.2.2.1, a0.2.2.2.2.2.2.2, y1, y2)))

def n58n_k := shut n58n_d
theorem n58n_e : n58n_k = n58n_d := shut_eq _

theorem n58n_p (a0 : dTxn) : Par (n58n_k a0) := by
  rw [n58n_e]
  unfold n58n_d
  exact ((n57n_p a0.2.2.2.2.1).bind fun y1 => ((n63n_p a0.2.2.2.2.2.1).bind fun y2 => (par_ret _)))

def n59n_b0 (x : q5T) (k : q5T ⊕ q5T → Option Res) : Option Res :=
    bif (decide (x.2.1 < (x.1.length : Int))) then
      if 0 ≤ x.2.1 ∧ x.2.1 < (x.1.length : Int) then
        n58n_k (rd (Ty.zero tTxn) x.1 x.2.1) (fun y2 =>
          if 0 ≤ x.2.1 ∧ x.2.1 < (x.2.2.length : Int) then
            k (.inl (x.1, (IntKind.wrap .i64 (x.2.1 + (1 : Int))), (x.2.2.set x.2.1.toNat (y2.1, (y2.2.1, (y2.2.2.1, (y2.2.2.2.1, (y2.2.2.2.2.2.2.1, (y2.2.2.2.2.2.2.2, (y2.2.2.2.2.1, y2.2.2.2.2.2.1))))))))))
          else none)
      else none
    else
      k (.inr (x.1, x.2.1, x.2.2))

theorem n59n_bp0 (x : q5T) : Par (n59n_b0 x) := by
  unfold n59n_b0
  exact (par_bif (par_ite (c := 0 ≤ x.2.1 ∧ x.2.1 < (x.1.length : Int)) ((n58n_p (rd (Ty.zero tTxn) x.1 x.2.1)).bind fun y2 => (par_ite (c := 0 ≤ x.2.1 ∧ x.2.1 < (x.2.2.length : Int)) (par_ret _) par_none)) par_none) (par_ret _))

def n59n_d (a0 : (List dTxn)) (k : (List dTxn) → Option Res) : Option Res :=
  if 0 ≤ (a0.length : Int) ∧ (a0.length : Int) ≤ (a0.length : Int) ∧ (a0.length : Int) ≤ (VE.maxLen : Int) then
    loopK n59n_b0 Fuel (a0, (0 : Int), (List.replicate (a0.length : Int).toNat (Ty.zero tTxn))) (fun z1 =>
      k z1.2.2)
  else none

def n59n_k := shut n59n_d
theorem n59n_e : n59n_k = n59n_d := shut_eq _

theorem n59n_p (a0 : (List dTxn)) : Par (n59n_k a0) := by
  rw [n59n_e]
  unfold n59n_d
  exact (par_ite (c := 0 ≤ (a0.length : Int) ∧ (a0.length : Int) ≤ (a0.length : Int) ∧ (a0.length : Int) ≤ (VE.maxLen : Int)) ((par_loop n59n_bp0 Fuel (a0, (0 : Int), (List.replicate (a0.length : Int).toNat (Ty.zero tTxn)))).bind fun z1 => (par_ret _)) par_none)

def n54n_d (a0 : dBase) (k : q36T → Option Res) : Option Res :=
  n61n_k a0.1 (fun y1 =>
    n59n_k a0.2.1 (fun y2 =>
      n59n_k a0.2.2.1 (fun y3 =>
        k (a0.2.2.2.1, a0.2.2.2.2, y1, y2, y3))))

def n54n_k := shut n54n_d
theorem n54n_e : n54n_k = n54n_d := shut_eq _

theorem n54n_p (a0 : dBase) : Par (n54n_k a0) := by
  rw [n54n_e]
  unfold n54n_d
  exact ((n61n_p a0.1).bind fun y1 => ((n59n_p a0.2.1).bind fun y2 => ((n59n_p a0.2.2.1).bind fun y3 => (par_ret _))))

def n55n_d (a0 : dEngine) (k : q35T → Option Res) : Option Res :=
  n54n_k a0.1 (fun y1 =>
    n59n_k a0.2 (fun y2 =>
      k (y1.1, y1.2.1, y1.2.2.1, y1.2.2.2.1, y1.2.2.2.2, y2)))

def n55n_k := shut n55n_d
theorem n55n_e : n55n_k = n55n_d := shut_eq _

theorem n55n_p (a0 : dEngine) : Par (n55n_k a0) := by
  rw [n55n_e]
  unfold n55n_d
  exact ((n54n_p a0.1).bind fun y1 => ((n59n_p a0.2).bind fun y2 => (par_ret _)))

def n80n_d (a0 : dTxn) (k : q40T → Option Res) : Option Res :=
  if ([] : List dRange).length + a0.2.2.2.2.1.length ≤ VE.maxLen then
    if ([] : List dWrite).length + a0.2.2.2.2.2.1.length ≤ VE.maxLen then
      k (a0.1, a0.2.1, a0.2.2.1, a0.2.2.2.1, a0.2.2.2.2.2.2.1, a0.2.2.2.2.2.2.2, (([] : List dRange) ++ a0.2.2.2.2.1), (([] : List dWrite) ++ a0.2.2.2.2.2.1))
    else none
  else none

def n80n_k := shut n80n_d
theorem n80n_e : n80n_k = n80n_d := shut_eq _

theorem n80n_p (a0 : dTxn) : Par (n80n_k a0) := by
  rw [n80n_e]
  unfold n80n_d
  exact (par_ite (c := ([] : List dRange).length + a0.2.2.2.2.1.length ≤ VE.maxLen) (par_ite (c := ([] : List dWrite).length + a0.2.2.2.2.2.1.length ≤ VE.maxLen) (par_ret _) par_none) par_none)

def n82n_b0 (x : q5T) (k : q5T ⊕ q5T → Option Res) : Option Res :=
    bif (decide (x.2.1 < (x.1.length : Int))) then
      if 0 ≤ x.2.1 ∧ x.2.1 < (x.1.length : Int) then
        n80n_k (rd (Ty.zero tTxn) x.1 x.2.1) (fun y2 =>
          if x.2.2.length + [(y2.1, (y2.2.1, (y2.2.2.1, (y2.2.2.2.1, (y2.2.2.2.2.2.2.1, (y2.2.2.2.2.2.2.2, (y2.2.2.2.2.1, y2.2.2.2.2.2.1)))))))].length ≤ VE.maxLen then
            k (.inl (x.1, (IntKind.wrap .i64 (x.2.1 + (1 : Int))), (x.2.2 ++ [(y2.1, (y2.2.1, (y2.2.2.1, (y2.2.2.2.1, (y2.2.2.2.2.2.2.1, (y2.2.2.2.2.2.2.2, (y2.2.2.2.2.1, y2.2.2.2.2.2.1)))))))])))
          else none)
      else none
    else
      k (.inr (x.1, x.2.1, x.2.2))

theorem n82n_bp0 (x : q5T) : Par (n82n_b0 x) := by
  unfold n82n_b0
  exact (par_bif (par_ite (c := 0 ≤ x.2.1 ∧ x.2.1 < (x.1.length : Int)) ((n80n_p (rd (Ty.zero tTxn) x.1 x.2.1)).bind fun y2 => (par_ite (c := x.2.2.length + [(y2.1, (y2.2.1, (y2.2.2.1, (y2.2.2.2.1, (y2.2.2.2.2.2.2.1, (y2.2.2.2.2.2.2.2, (y2.2.2.2.2.1, y2.2.2.2.2.2.1)))))))].length ≤ VE.maxLen) (par_ret _) par_none)) par_none) (par_ret _))

def n82n_d (a0 : (List dTxn)) (k : (List dTxn) → Option Res) : Option Res :=
  loopK n82n_b0 Fuel (a0, (0 : Int), ([] : List dTxn)) (fun z1 =>
    k z1.2.2)

def n82n_k := shut n82n_d
theorem n82n_e : n82n_k = n82n_d := shut_eq _

theorem n82n_p (a0 : (List dTxn)) : Par (n82n_k a0) := by
  rw [n82n_e]
  unfold n82n_d
  exact ((par_loop n82n_bp0 Fuel (a0, (0 : Int), ([] : List dTxn))).bind fun z1 => (par_ret _))

def n81n_d (a0 : dBase) (k : q36T → Option Res) : Option Res :=
  if ([] : List dVersion).length + a0.1.length ≤ VE.maxLen then
    n82n_k a0.2.1 (fun y1 =>
      n82n_k a0.2.2.1 (fun y2 =>
        k (a0.2.2.2.1, a0.2.2.2.2, (([] : List dVersion) ++ a0.1), y1, y2)))
  else none

def n81n_k := shut n81n_d
theorem n81n_e : n81n_k = n81n_d := shut_eq _

theorem n81n_p (a0 : dBase) : Par (n81n_k a0) := by
  rw [n81n_e]
  unfold n81n_d
  exact (par_ite (c := ([] : List dVersion).length + a0.1.length ≤ VE.maxLen) ((n82n_p a0.2.1).bind fun y1 => ((n82n_p a0.2.2.1).bind fun y2 => (par_ret _))) par_none)

def n83n_d (a0 : dEngine) (k : q35T → Option Res) : Option Res :=
  n81n_k a0.1 (fun y1 =>
    n82n_k a0.2 (fun y2 =>
      k (y1.1, y1.2.1, y1.2.2.1, y1.2.2.2.1, y1.2.2.2.2, y2)))

def n83n_k := shut n83n_d
theorem n83n_e : n83n_k = n83n_d := shut_eq _

theorem n83n_p (a0 : dEngine) : Par (n83n_k a0) := by
  rw [n83n_e]
  unfold n83n_d
  exact ((n81n_p a0.1).bind fun y1 => ((n82n_p a0.2).bind fun y2 => (par_ret _)))

def n70n_b0 (x : q38T) (k : q38T ⊕ (q38T ⊕ q38T) → Option Res) : Option Res :=
    bif (decide (x.2.2.1 < (x.2.2.2.2.2.2.2.2.length : Int))) then
      if 0 ≤ x.2.2.1 ∧ x.2.2.1 < (x.2.2.2.2.2.2.2.2.length : Int) then
        bif ((rd (Ty.zero tTxn) x.2.2.2.2.2.2.2.2 x.2.2.1).1 == x.1) then
          k (.inr (.inl (x.1, x.2.2.1, x.2.2.1, x.2.2.2.1, x.2.2.2.2.1, x.2.2.2.2.2.1, x.2.2.2.2.2.2.1, x.2.2.2.2.2.2.2.1, x.2.2.2.2.2.2.2.2)))
        else
          k (.inl (x.1, x.2.1, (IntKind.wrap .i64 (x.2.2.1 + (1 : Int))), x.2.2.2.1, x.2.2.2.2.1, x.2.2.2.2.2.1, x.2.2.2.2.2.2.1, x.2.2.2.2.2.2.2.1, x.2.2.2.2.2.2.2.2))
      else none
    else
      k (.inr (.inr (x.1, x.2.1, x.2.2.1, x.2.2.2.1, x.2.2.2.2.1, x.2.2.2.2.2.1, x.2.2.2.2.2.2.1, x.2.2.2.2.2.2.2.1, x.2.2.2.2.2.2.2.2)))

theorem n70n_bp0 (x : q38T) : Par (n70n_b0 x) := by
  unfold n70n_b0
  exact (par_bif (par_ite (c := 0 ≤ x.2.2.1 ∧ x.2.2.1 < (x.2.2.2.2.2.2.2.2.length : Int)) (par_bif (par_ret _) (par_ret _)) par_none) (par_ret _))

def n70n_d (a0 : dEngine) (a1 : Int) (k : Int → Option Res) : Option Res :=
  loopK n70n_b0 Fuel (a1, (0 : Int), (0 : Int), a0.1.1, a0.1.2.1, a0.1.2.2.1, a0.1.2.2.2.1, a0.1.2.2.2.2, a0.2) (Sum.elim (fun z1 =>
    k z1.2.1) (fun _ =>
    k (-1 : Int)))

def n70n_k := shut n70n_d
theorem n70n_e : n70n_k = n70n_d := shut_eq _

theorem n70n_p (a0 : dEngine) (a1 : Int) : Par (n70n_k a0 a1) := by
  rw [n70n_e]
  unfold n70n_d
  exact ((par_loop n70n_bp0 Fuel (a1, (0 : Int), (0 : Int), a0.1.1, a0.1.2.1, a0.1.2.2.1, a0.1.2.2.2.1, a0.1.2.2.2.2, a0.2)).bind2 (fun z1 => (par_ret _)) (fun z2 => (par_ret _)))

def n78n_d (a0 : Int) (a1 : Int) (a2 : Int) (k : Bool → Option Res) : Option Res :=
  bif (decide (a0 ≥ a1)) then
    k (decide (a0 ≤ a2))
  else
    k false

def n78n_k := shut n78n_d
theorem n78n_e : n78n_k = n78n_d := shut_eq _

theorem n78n_p (a0 : Int) (a1 : Int) (a2 : Int) : Par (n78n_k a0 a1 a2) := by
  rw [n78n_e]
  unfold n78n_d
  exact (par_bif (par_ret _) (par_ret _))

def n69n_b0 (x : (ByteArray × Bool × Int)) (k : (ByteArray × Bool × Int) ⊕ ((ByteArray × Bool × Int) ⊕ (ByteArray × Bool × Int)) → Option Res) : Option Res :=
    bif (decide (x.2.2 < (x.1.size : Int))) then
      if 0 ≤ x.2.2 ∧ x.2.2 < (x.1.size : Int) then
        bif (decide ((bt x.1 x.2.2) < (97 : Int))) then
          k (.inr (.inl (x.1, false, x.2.2)))
        else
          if 0 ≤ x.2.2 ∧ x.2.2 < (x.1.size : Int) then
            bif (decide ((bt x.1 x.2.2) > (122 : Int))) then
              k (.inr (.inl (x.1, false, x.2.2)))
            else
              k (.inl (x.1, x.2.1, (IntKind.wrap .i64 (x.2.2 + (1 : Int)))))
          else none
      else none
    else
      k (.inr (.inr (x.1, x.2.1, x.2.2)))

theorem n69n_bp0 (x : (ByteArray × Bool × Int)) : Par (n69n_b0 x) := by
  unfold n69n_b0
  exact (par_bif (par_ite (c := 0 ≤ x.2.2 ∧ x.2.2 < (x.1.size : Int)) (par_bif (par_ret _) (par_ite (c := 0 ≤ x.2.2 ∧ x.2.2 < (x.1.size : Int)) (par_bif (par_ret _) (par_ret _)) par_none)) par_none) (par_ret _))

def n69n_d (a0 : ByteArray) (k : Bool → Option Res) : Option Res :=
  loopK n69n_b0 Fuel (a0, false, (0 : Int)) (Sum.elim (fun z1 =>
    k z1.2.1) (fun z2 =>
    n78n_k (z2.1.size : Int) (1 : Int) (3 : Int) (fun y3 =>
      k y3)))

def n69n_k := shut n69n_d
theorem n69n_e : n69n_k = n69n_d := shut_eq _

theorem n69n_p (a0 : ByteArray) : Par (n69n_k a0) := by
  rw [n69n_e]
  unfold n69n_d
  exact ((par_loop n69n_bp0 Fuel (a0, false, (0 : Int))).bind2 (fun z1 => (par_ret _)) (fun z2 => ((n78n_p (z2.1.size : Int) (1 : Int) (3 : Int)).bind fun y3 => (par_ret _))))

def n76n_d (a0 : dWrite) (k : Bool → Option Res) : Option Res :=
  n69n_k a0.1 (fun y1 =>
    bif y1 then
      bif (decide ((a0.2.1.size : Int) ≤ (12 : Int))) then
        bif (!a0.2.2) then
          k true
        else
          k (strEq a0.2.1 (⟨#[]⟩ : ByteArray))
      else
        k false
    else
      k false)

def n76n_k := shut n76n_d
theorem n76n_e : n76n_k = n76n_d := shut_eq _

theorem n76n_p (a0 : dWrite) : Par (n76n_k a0) := by
  rw [n76n_e]
  unfold n76n_d
  exact ((n69n_p a0.1).bind fun y1 => (par_bif (par_bif (par_bif (par_ret _) (par_ret _)) (par_ret _)) (par_ret _)))

def n77n_b0 (x : ((List dWrite) × Bool × Int)) (k : ((List dWrite) × Bool × Int) ⊕ (((List dWrite) × Bool × Int) ⊕ ((List dWrite) × Bool × Int)) → Option Res) : Option Res :=
    bif (decide (x.2.2 < (x.1.length : Int))) then
      if 0 ≤ x.2.2 ∧ x.2.2 < (x.1.length : Int) then
        n76n_k (rd (Ty.zero tWrite) x.1 x.2.2) (fun y3 =>
          bif (!y3) then
            k (.inr (.inl (x.1, false, x.2.2)))
          else
            bif (decide (x.2.2 > (0 : Int))) then
              if 0 ≤ (IntKind.wrap .i64 (x.2.2 - (1 : Int))) ∧ (IntKind.wrap .i64 (x.2.2 - (1 : Int))) < (x.1.length : Int) then
                if 0 ≤ x.2.2 ∧ x.2.2 < (x.1.length : Int) then
                  bif (!(strLess ((rd (Ty.zero tWrite) x.1 (IntKind.wrap .i64 (x.2.2 - (1 : Int)))).1) ((rd (Ty.zero tWrite) x.1 x.2.2).1))) then
                    k (.inr (.inl (x.1, false, x.2.2)))
                  else
                    k (.inl (x.1, x.2.1, (IntKind.wrap .i64 (x.2.2 + (1 : Int)))))
                else none
              else none
            else
              k (.inl (x.1, x.2.1, (IntKind.wrap .i64 (x.2.2 + (1 : Int))))))
      else none
    else
      k (.inr (.inr (x.1, x.2.1, x.2.2)))

theorem n77n_bp0 (x : ((List dWrite) × Bool × Int)) : Par (n77n_b0 x) := by
  unfold n77n_b0
  exact (par_bif (par_ite (c := 0 ≤ x.2.2 ∧ x.2.2 < (x.1.length : Int)) ((n76n_p (rd (Ty.zero tWrite) x.1 x.2.2)).bind fun y3 => (par_bif (par_ret _) (par_bif (par_ite (c := 0 ≤ (IntKind.wrap .i64 (x.2.2 - (1 : Int))) ∧ (IntKind.wrap .i64 (x.2.2 - (1 : Int))) < (x.1.length : Int)) (par_ite (c := 0 ≤ x.2.2 ∧ x.2.2 < (x.1.length : Int)) (par_bif (par_ret _) (par_ret _)) par_none) par_none) (par_ret _)))) par_none) (par_ret _))

def n77n_d (a0 : (List dWrite)) (k : Bool → Option Res) : Option Res :=
  loopK n77n_b0 Fuel (a0, false, (0 : Int)) (Sum.elim (fun z1 =>
    k z1.2.1) (fun z2 =>
    k (decide ((z2.1.length : Int) ≤ (8 : Int)))))

def n77n_k := shut n77n_d
theorem n77n_e : n77n_k = n77n_d := shut_eq _

theorem n77n_p (a0 : (List dWrite)) : Par (n77n_k a0) := by
  rw [n77n_e]
  unfold n77n_d
  exact ((par_loop n77n_bp0 Fuel (a0, false, (0 : Int))).bind2 (fun z1 => (par_ret _)) (fun z2 => (par_ret _)))

def n72n_d (a0 : dRange) (k : Bool → Option Res) : Option Res :=
  n69n_k a0.1 (fun y1 =>
    bif y1 then
      n69n_k a0.2 (fun y2 =>
        bif y2 then
          k ((strLess a0.1 a0.2) || (strEq a0.1 a0.2))
        else
          k false)
    else
      k false)

def n72n_k := shut n72n_d
theorem n72n_e : n72n_k = n72n_d := shut_eq _

theorem n72n_p (a0 : dRange) : Par (n72n_k a0) := by
  rw [n72n_e]
  unfold n72n_d
  exact ((n69n_p a0.1).bind fun y1 => (par_bif ((n69n_p a0.2).bind fun y2 => (par_bif (par_ret _) (par_ret _))) (par_ret _)))

def n75n_j5000012 (x : q26T) (k : q26T → Option Res) : Option Res :=
    bif (x.2.2.1 != (1 : Int)) then
      k (true, x.2.1, x.2.2.1, x.2.2.2.1, x.2.2.2.2.1, x.2.2.2.2.2.1, x.2.2.2.2.2.2.1, x.2.2.2.2.2.2.2.1, x.2.2.2.2.2.2.2.2)
    else
      k ((!x.2.2.2.2.2.2.2.1), x.2.1, x.2.2.1, x.2.2.2.1, x.2.2.2.2.1, x.2.2.2.2.2.1, x.2.2.2.2.2.2.1, x.2.2.2.2.2.2.2.1, x.2.2.2.2.2.2.2.2)

theorem n75n_jp5000012 (x : q26T) : Par (n75n_j5000012 x) := by
  unfold n75n_j5000012
  exact (par_bif (par_ret _) (par_ret _))

def n75n_j5000010 (x : q26T) (k : q26T → Option Res) : Option Res :=
    bif (x.2.2.1 == (2 : Int)) then
      n69n_k x.2.2.2.2.2.2.2.2 (fun y14 =>
        bif (!y14) then
          k (false, x.2.1, x.2.2.1, x.2.2.2.1, x.2.2.2.2.1, x.2.2.2.2.2.1, x.2.2.2.2.2.2.1, x.2.2.2.2.2.2.2.1, x.2.2.2.2.2.2.2.2)
        else
          bif (x.2.2.1 != (2 : Int)) then
            bif (!(strEq x.2.2.2.2.2.2.2.2 (⟨#[]⟩ : ByteArray))) then
              k (false, x.2.1, x.2.2.1, x.2.2.2.1, x.2.2.2.2.1, x.2.2.2.2.2.1, x.2.2.2.2.2.2.1, x.2.2.2.2.2.2.2.1, x.2.2.2.2.2.2.2.2)
            else
              n75n_j5000012 (x.1, x.2.1, x.2.2.1, x.2.2.2.1, x.2.2.2.2.1, x.2.2.2.2.2.1, x.2.2.2.2.2.2.1, x.2.2.2.2.2.2.2.1, x.2.2.2.2.2.2.2.2) (fun z15 =>
                k (z15.1, z15.2.1, z15.2.2.1, z15.2.2.2.1, z15.2.2.2.2.1, z15.2.2.2.2.2.1, z15.2.2.2.2.2.2.1, z15.2.2.2.2.2.2.2.1, z15.2.2.2.2.2.2.2.2))
          else
            n75n_j5000012 (x.1, x.2.1, x.2.2.1, x.2.2.2.1, x.2.2.2.2.1, x.2.2.2.2.2.1, x.2.2.2.2.2.2.1, x.2.2.2.2.2.2.2.1, x.2.2.2.2.2.2.2.2) (fun z16 =>
              k (z16.1, z16.2.1, z16.2.2.1, z16.2.2.2.1, z16.2.2.2.2.1, z16.2.2.2.2.2.1, z16.2.2.2.2.2.2.1, z16.2.2.2.2.2.2.2.1, z16.2.2.2.2.2.2.2.2)))
    else
      bif (x.2.2.1 != (2 : Int)) then
        bif (!(strEq x.2.2.2.2.2.2.2.2 (⟨#[]⟩ : ByteArray))) then
          k (false, x.2.1, x.2.2.1, x.2.2.2.1, x.2.2.2.2.1, x.2.2.2.2.2.1, x.2.2.2.2.2.2.1, x.2.2.2.2.2.2.2.1, x.2.2.2.2.2.2.2.2)
        else
          n75n_j5000012 (x.1, x.2.1, x.2.2.1, x.2.2.2.1, x.2.2.2.2.1, x.2.2.2.2.2.1, x.2.2.2.2.2.2.1, x.2.2.2.2.2.2.2.1, x.2.2.2.2.2.2.2.2) (fun z17 =>
            k (z17.1, z17.2.1, z17.2.2.1, z17.2.2.2.1, z17.2.2.2.2.1, z17.2.2.2.2.2.1, z17.2.2.2.2.2.2.1, z17.2.2.2.2.2.2.2.1, z17.2.2.2.2.2.2.2.2))
      else
        n75n_j5000012 (x.1, x.2.1, x.2.2.1, x.2.2.2.1, x.2.2.2.2.1, x.2.2.2.2.2.1, x.2.2.2.2.2.2.1, x.2.2.2.2.2.2.2.1, x.2.2.2.2.2.2.2.2) (fun z18 =>
          k (z18.1, z18.2.1, z18.2.2.1, z18.2.2.2.1, z18.2.2.2.2.1, z18.2.2.2.2.2.1, z18.2.2.2.2.2.2.1, z18.2.2.2.2.2.2.2.1, z18.2.2.2.2.2.2.2.2))

theorem n75n_jp5000010 (x : q26T) : Par (n75n_j5000010 x) := by
  unfold n75n_j5000010
  exact (par_bif ((n69n_p x.2.2.2.2.2.2.2.2).bind fun y14 => (par_bif (par_ret _) (par_bif (par_bif (par_ret _) ((n75n_jp5000012 (x.1, x.2.1, x.2.2.1, x.2.2.2.1, x.2.2.2.2.1, x.2.2.2.2.2.1, x.2.2.2.2.2.2.1, x.2.2.2.2.2.2.2.1, x.2.2.2.2.2.2.2.2)).bind fun z15 => (par_ret _))) ((n75n_jp5000012 (x.1, x.2.1, x.2.2.1, x.2.2.2.1, x.2.2.2.2.1, x.2.2.2.2.2.1, x.2.2.2.2.2.2.1, x.2.2.2.2.2.2.2.1, x.2.2.2.2.2.2.2.2)).bind fun z16 => (par_ret _))))) (par_bif (par_bif (par_ret _) ((n75n_jp5000012 (x.1, x.2.1, x.2.2.1, x.2.2.2.1, x.2.2.2.2.1, x.2.2.2.2.2.1, x.2.2.2.2.2.2.1, x.2.2.2.2.2.2.2.1, x.2.2.2.2.2.2.2.2)).bind fun z17 => (par_ret _))) ((n75n_jp5000012 (x.1, x.2.1, x.2.2.1, x.2.2.2.1, x.2.2.2.2.1, x.2.2.2.2.2.1, x.2.2.2.2.2.2.1, x.2.2.2.2.2.2.2.1, x.2.2.2.2.2.2.2.2)).bind fun z18 => (par_ret _))))

def n75n_b0 (x : q29T) (k : q29T ⊕ (q29T ⊕ q29T) → Option Res) : Option Res :=
    bif (decide (x.2.1 < (x.2.2.2.2.2.2.1.length : Int))) then
      if 0 ≤ x.2.1 ∧ x.2.1 < (x.2.2.2.2.2.2.1.length : Int) then
        n72n_k (rd (Ty.zero tRange) x.2.2.2.2.2.2.1 x.2.1) (fun y6 =>
          bif (!y6) then
            k (.inr (.inl (false, x.2.1, x.2.2.1, x.2.2.2.1, x.2.2.2.2.1, x.2.2.2.2.2.1, x.2.2.2.2.2.2.1, x.2.2.2.2.2.2.2.1, x.2.2.2.2.2.2.2.2.1, x.2.2.2.2.2.2.2.2.2)))
          else
            k (.inl (x.1, (IntKind.wrap .i64 (x.2.1 + (1 : Int))), x.2.2.1, x.2.2.2.1, x.2.2.2.2.1, x.2.2.2.2.2.1, x.2.2.2.2.2.2.1, x.2.2.2.2.2.2.2.1, x.2.2.2.2.2.2.2.2.1, x.2.2.2.2.2.2.2.2.2)))
      else none
    else
      k (.inr (.inr (x.1, x.2.1, x.2.2.1, x.2.2.2.1, x.2.2.2.2.1, x.2.2.2.2.2.1, x.2.2.2.2.2.2.1, x.2.2.2.2.2.2.2.1, x.2.2.2.2.2.2.2.2.1, x.2.2.2.2.2.2.2.2.2)))

theorem n75n_bp0 (x : q29T) : Par (n75n_b0 x) := by
  unfold n75n_b0
  exact (par_bif (par_ite (c := 0 ≤ x.2.1 ∧ x.2.1 < (x.2.2.2.2.2.2.1.length : Int)) ((n72n_p (rd (Ty.zero tRange) x.2.2.2.2.2.2.1 x.2.1)).bind fun y6 => (par_bif (par_ret _) (par_ret _))) par_none) (par_ret _))

def n75n_j5000003 (x : q26T) (k : q26T → Option Res) : Option Res :=
    loopK n75n_b0 Fuel (x.1, (0 : Int), x.2.1, x.2.2.1, x.2.2.2.1, x.2.2.2.2.1, x.2.2.2.2.2.1, x.2.2.2.2.2.2.1, x.2.2.2.2.2.2.2.1, x.2.2.2.2.2.2.2.2) (Sum.elim (fun z7 =>
      k (z7.1, z7.2.2.1, z7.2.2.2.1, z7.2.2.2.2.1, z7.2.2.2.2.2.1, z7.2.2.2.2.2.2.1, z7.2.2.2.2.2.2.2.1, z7.2.2.2.2.2.2.2.2.1, z7.2.2.2.2.2.2.2.2.2)) (fun z8 =>
      bif (z8.2.2.2.1 == (3 : Int)) then
        n78n_k z8.2.2.2.2.2.1 (IntKind.wrap .i64 (z8.2.2.2.2.1 + (1 : Int))) (9999 : Int) (fun y9 =>
          bif (!y9) then
            k (false, z8.2.2.1, z8.2.2.2.1, z8.2.2.2.2.1, z8.2.2.2.2.2.1, z8.2.2.2.2.2.2.1, z8.2.2.2.2.2.2.2.1, z8.2.2.2.2.2.2.2.2.1, z8.2.2.2.2.2.2.2.2.2)
          else
            bif (z8.2.2.2.1 != (3 : Int)) then
              bif (z8.2.2.2.2.2.1 != (0 : Int)) then
                k (false, z8.2.2.1, z8.2.2.2.1, z8.2.2.2.2.1, z8.2.2.2.2.2.1, z8.2.2.2.2.2.2.1, z8.2.2.2.2.2.2.2.1, z8.2.2.2.2.2.2.2.2.1, z8.2.2.2.2.2.2.2.2.2)
              else
                n75n_j5000010 (z8.1, z8.2.2.1, z8.2.2.2.1, z8.2.2.2.2.1, z8.2.2.2.2.2.1, z8.2.2.2.2.2.2.1, z8.2.2.2.2.2.2.2.1, z8.2.2.2.2.2.2.2.2.1, z8.2.2.2.2.2.2.2.2.2) (fun z10 =>
                  k (z10.1, z10.2.1, z10.2.2.1, z10.2.2.2.1, z10.2.2.2.2.1, z10.2.2.2.2.2.1, z10.2.2.2.2.2.2.1, z10.2.2.2.2.2.2.2.1, z10.2.2.2.2.2.2.2.2))
            else
              n75n_j5000010 (z8.1, z8.2.2.1, z8.2.2.2.1, z8.2.2.2.2.1, z8.2.2.2.2.2.1, z8.2.2.2.2.2.2.1, z8.2.2.2.2.2.2.2.1, z8.2.2.2.2.2.2.2.2.1, z8.2.2.2.2.2.2.2.2.2) (fun z11 =>
                k (z11.1, z11.2.1, z11.2.2.1, z11.2.2.2.1, z11.2.2.2.2.1, z11.2.2.2.2.2.1, z11.2.2.2.2.2.2.1, z11.2.2.2.2.2.2.2.1, z11.2.2.2.2.2.2.2.2)))
      else
        bif (z8.2.2.2.1 != (3 : Int)) then
          bif (z8.2.2.2.2.2.1 != (0 : Int)) then
            k (false, z8.2.2.1, z8.2.2.2.1, z8.2.2.2.2.1, z8.2.2.2.2.2.1, z8.2.2.2.2.2.2.1, z8.2.2.2.2.2.2.2.1, z8.2.2.2.2.2.2.2.2.1, z8.2.2.2.2.2.2.2.2.2)
          else
            n75n_j5000010 (z8.1, z8.2.2.1, z8.2.2.2.1, z8.2.2.2.2.1, z8.2.2.2.2.2.1, z8.2.2.2.2.2.2.1, z8.2.2.2.2.2.2.2.1, z8.2.2.2.2.2.2.2.2.1, z8.2.2.2.2.2.2.2.2.2) (fun z12 =>
              k (z12.1, z12.2.1, z12.2.2.1, z12.2.2.2.1, z12.2.2.2.2.1, z12.2.2.2.2.2.1, z12.2.2.2.2.2.2.1, z12.2.2.2.2.2.2.2.1, z12.2.2.2.2.2.2.2.2))
        else
          n75n_j5000010 (z8.1, z8.2.2.1, z8.2.2.2.1, z8.2.2.2.2.1, z8.2.2.2.2.2.1, z8.2.2.2.2.2.2.1, z8.2.2.2.2.2.2.2.1, z8.2.2.2.2.2.2.2.2.1, z8.2.2.2.2.2.2.2.2.2) (fun z13 =>
            k (z13.1, z13.2.1, z13.2.2.1, z13.2.2.2.1, z13.2.2.2.2.1, z13.2.2.2.2.2.1, z13.2.2.2.2.2.2.1, z13.2.2.2.2.2.2.2.1, z13.2.2.2.2.2.2.2.2))))

theorem n75n_jp5000003 (x : q26T) : Par (n75n_j5000003 x) := by
  unfold n75n_j5000003
  exact ((par_loop n75n_bp0 Fuel (x.1, (0 : Int), x.2.1, x.2.2.1, x.2.2.2.1, x.2.2.2.2.1, x.2.2.2.2.2.1, x.2.2.2.2.2.2.1, x.2.2.2.2.2.2.2.1, x.2.2.2.2.2.2.2.2)).bind2 (fun z7 => (par_ret _)) (fun z8 => (par_bif ((n78n_p z8.2.2.2.2.2.1 (IntKind.wrap .i64 (z8.2.2.2.2.1 + (1 : Int))) (9999 : Int)).bind fun y9 => (par_bif (par_ret _) (par_bif (par_bif (par_ret _) ((n75n_jp5000010 (z8.1, z8.2.2.1, z8.2.2.2.1, z8.2.2.2.2.1, z8.2.2.2.2.2.1, z8.2.2.2.2.2.2.1, z8.2.2.2.2.2.2.2.1, z8.2.2.2.2.2.2.2.2.1, z8.2.2.2.2.2.2.2.2.2)).bind fun z10 => (par_ret _))) ((n75n_jp5000010 (z8.1, z8.2.2.1, z8.2.2.2.1, z8.2.2.2.2.1, z8.2.2.2.2.2.1, z8.2.2.2.2.2.2.1, z8.2.2.2.2.2.2.2.1, z8.2.2.2.2.2.2.2.2.1, z8.2.2.2.2.2.2.2.2.2)).bind fun z11 => (par_ret _))))) (par_bif (par_bif (par_ret _) ((n75n_jp5000010 (z8.1, z8.2.2.1, z8.2.2.2.1, z8.2.2.2.2.1, z8.2.2.2.2.2.1, z8.2.2.2.2.2.2.1, z8.2.2.2.2.2.2.2.1, z8.2.2.2.2.2.2.2.2.1, z8.2.2.2.2.2.2.2.2.2)).bind fun z12 => (par_ret _))) ((n75n_jp5000010 (z8.1, z8.2.2.1, z8.2.2.2.1, z8.2.2.2.2.1, z8.2.2.2.2.2.1, z8.2.2.2.2.2.2.1, z8.2.2.2.2.2.2.2.1, z8.2.2.2.2.2.2.2.2.1, z8.2.2.2.2.2.2.2.2.2)).bind fun z13 => (par_ret _))))))

def n75n_d (a0 : dTxn) (k : Bool → Option Res) : Option Res :=
  n78n_k a0.1 (1 : Int) (9999 : Int) (fun y1 =>
    bif (!y1) then
      k false
    else
      n78n_k a0.2.1 (1 : Int) (3 : Int) (fun y2 =>
        bif (!y2) then
          k false
        else
          n78n_k a0.2.2.1 (0 : Int) (9999 : Int) (fun y3 =>
            bif (!y3) then
              k false
            else
              bif (decide ((a0.2.2.2.2.1.length : Int) > (8 : Int))) then
                k false
              else
                n77n_k a0.2.2.2.2.2.1 (fun y4 =>
                  bif (!y4) then
                    k false
                  else
                    n75n_j5000003 (false, a0.1, a0.2.1, a0.2.2.1, a0.2.2.2.1, a0.2.2.2.2.1, a0.2.2.2.2.2.1, a0.2.2.2.2.2.2.1, a0.2.2.2.2.2.2.2) (fun z5 =>
                      k z5.1)))))

def n75n_k := shut n75n_d
theorem n75n_e : n75n_k = n75n_d := shut_eq _

theorem n75n_p (a0 : dTxn) : Par (n75n_k a0) := by
  rw [n75n_e]
  unfold n75n_d
  exact ((n78n_p a0.1 (1 : Int) (9999 : Int)).bind fun y1 => (par_bif (par_ret _) ((n78n_p a0.2.1 (1 : Int) (3 : Int)).bind fun y2 => (par_bif (par_ret _) ((n78n_p a0.2.2.1 (0 : Int) (9999 : Int)).bind fun y3 => (par_bif (par_ret _) (par_bif (par_ret _) ((n77n_p a0.2.2.2.2.2.1).bind fun y4 => (par_bif (par_ret _) ((n75n_jp5000003 (false, a0.1, a0.2.1, a0.2.2.1, a0.2.2.2.1, a0.2.2.2.2.1, a0.2.2.2.2.2.1, a0.2.2.2.2.2.2.1, a0.2.2.2.2.2.2.2)).bind fun z5 => (par_ret _)))))))))))

def n73n_b0 (x : q27T) (k : q27T ⊕ (q27T ⊕ q28T) → Option Res) : Option Res :=
    bif (decide (x.2.1 < (x.2.2.2.2.2.2.1.length : Int))) then
      if 0 ≤ x.2.1 ∧ x.2.1 < (x.2.2.2.2.2.2.1.length : Int) then
        bif (Ty.eqB tRange (rd (Ty.zero tRange) x.2.2.2.2.2.2.1 x.2.1) (x.2.2.2.2.2.2.2.2.2.2.1, x.2.2.2.2.2.2.2.2.2.2.2.1)) then
          k (.inr (.inr (true, x.2.1, x.2.2.1, x.2.2.2.1, x.2.2.2.2.1, x.2.2.2.2.2.1, x.2.2.2.2.2.2.1, x.2.2.2.2.2.2.2.1, x.2.2.2.2.2.2.2.2.1, x.2.2.2.2.2.2.2.2.2.1, x.2.2.2.2.2.2.2.2.2.2.1, x.2.2.2.2.2.2.2.2.2.2.2.1, x.2.2.2.2.2.2.2.2.2.2.2.2.2.2.2.2.2.2.1, x.2.2.2.2.2.2.2.2.2.2.2.2.2.2.2.2.2.2.2.1, x.2.2.2.2.2.2.2.2.2.2.2.2.2.2.2.2.2.2.2.2.1, x.2.2.2.2.2.2.2.2.2.2.2.2.2.2.2.2.2.2.2.2.2.1, x.2.2.2.2.2.2.2.2.2.2.2.2.2.2.2.2.2.2.2.2.2.2.1, x.2.2.2.2.2.2.2.2.2.2.2.2.2.2.2.2.2.2.2.2.2.2.2.1, x.2.2.2.2.2.2.2.2.2.2.2.2.2.2.2.2.2.2.1, x.2.2.2.2.2.2.2.2.2.2.2.2.2.2.2.2.2.2.2.1, x.2.2.2.2.2.2.2.2.2.2.2.2.2.2.2.2.2.2.2.2.1, x.2.2.2.2.2.2.2.2.2.2.2.2.2.2.2.2.2.2.2.2.2.1, x.2.2.2.2.2.2.2.2.2.2.2.2.2.2.2.2.2.2.2.2.2.2.1, x.2.2.2.2.2.2.2.2.2.2.2.2.2.2.2.2.2.2.2.2.2.2.2.1, x.2.2.2.2.2.2.2.2.2.2.2.2.2.2.2.2.2.2.2.2.2.2.2.2.2.2.1, x.2.2.2.2.2.2.2.2.2.2.2.2.2.2.2.2.2.2.2.2.2.2.2.2.2.2.2)))
        else
          k (.inl (x.1, (IntKind.wrap .i64 (x.2.1 + (1 : Int))), x.2.2.1, x.2.2.2.1, x.2.2.2.2.1, x.2.2.2.2.2.1, x.2.2.2.2.2.2.1, x.2.2.2.2.2.2.2.1, x.2.2.2.2.2.2.2.2.1, x.2.2.2.2.2.2.2.2.2.1, x.2.2.2.2.2.2.2.2.2.2.1, x.2.2.2.2.2.2.2.2.2.2.2.1, x.2.2.2.2.2.2.2.2.2.2.2.2.1, x.2.2.2.2.2.2.2.2.2.2.2.2.2.1, x.2.2.2.2.2.2.2.2.2.2.2.2.2.2.1, x.2.2.2.2.2.2.2.2.2.2.2.2.2.2.2.1, x.2.2.2.2.2.2.2.2.2.2.2.2.2.2.2.2.1, x.2.2.2.2.2.2.2.2.2.2.2.2.2.2.2.2.2.1, x.2.2.2.2.2.2.2.2.2.2.2.2.2.2.2.2.2.2.1, x.2.2.2.2.2.2.2.2.2.2.2.2.2.2.2.2.2.2.2.1, x.2.2.2.2.2.2.2.2.2.2.2.2.2.2.2.2.2.2.2.2.1, x.2.2.2.2.2.2.2.2.2.2.2.2.2.2.2.2.2.2.2.2.2.1, x.2.2.2.2.2.2.2.2.2.2.2.2.2.2.2.2.2.2.2.2.2.2.1, x.2.2.2.2.2.2.2.2.2.2.2.2.2.2.2.2.2.2.2.2.2.2.2.1, x.2.2.2.2.2.2.2.2.2.2.2.2.2.2.2.2.2.2.2.2.2.2.2.2.1, x.2.2.2.2.2.2.2.2.2.2.2.2.2.2.2.2.2.2.2.2.2.2.2.2.2.1, x.2.2.2.2.2.2.2.2.2.2.2.2.2.2.2.2.2.2.2.2.2.2.2.2.2.2.1, x.2.2.2.2.2.2.2.2.2.2.2.2.2.2.2.2.2.2.2.2.2.2.2.2.2.2.2))
      else none
    else
      k (.inr (.inl (x.1, x.2.1, x.2.2.1, x.2.2.2.1, x.2.2.2.2.1, x.2.2.2.2.2.1, x.2.2.2.2.2.2.1, x.2.2.2.2.2.2.2.1, x.2.2.2.2.2.2.2.2.1, x.2.2.2.2.2.2.2.2.2.1, x.2.2.2.2.2.2.2.2.2.2.1, x.2.2.2.2.2.2.2.2.2.2.2.1, x.2.2.2.2.2.2.2.2.2.2.2.2.1, x.2.2.2.2.2.2.2.2.2.2.2.2.2.1, x.2.2.2.2.2.2.2.2.2.2.2.2.2.2.1, x.2.2.2.2.2.2.2.2.2.2.2.2.2.2.2.1, x.2.2.2.2.2.2.2.2.2.2.2.2.2.2.2.2.1, x.2.2.2.2.2.2.2.2.2.2.2.2.2.2.2.2.2.1, x.2.2.2.2.2.2.2.2.2.2.2.2.2.2.2.2.2.2.1, x.2.2.2.2.2.2.2.2.2.2.2.2.2.2.2.2.2.2.2.1, x.2.2.2.2.2.2.2.2.2.2.2.2.2.2.2.2.2.2.2.2.1, x.2.2.2.2.2.2.2.2.2.2.2.2.2.2.2.2.2.2.2.2.2.1, x.2.2.2.2.2.2.2.2.2.2.2.2.2.2.2.2.2.2.2.2.2.2.1, x.2.2.2.2.2.2.2.2.2.2.2.2.2.2.2.2.2.2.2.2.2.2.2.1, x.2.2.2.2.2.2.2.2.2.2.2.2.2.2.2.2.2.2.2.2.2.2.2.2.1, x.2.2.2.2.2.2.2.2.2.2.2.2.2.2.2.2.2.2.2.2.2.2.2.2.2.1, x.2.2.2.2.2.2.2.2.2.2.2.2.2.2.2.2.2.2.2.2.2.2.2.2.2.2.1, x.2.2.2.2.2.2.2.2.2.2.2.2.2.2.2.2.2.2.2.2.2.2.2.2.2.2.2)))

theorem n73n_bp0 (x : q27T) : Par (n73n_b0 x) := by
  unfold n73n_b0
  exact (par_bif (par_ite (c := 0 ≤ x.2.1 ∧ x.2.1 < (x.2.2.2.2.2.2.1.length : Int)) (par_bif (par_ret _) (par_ret _)) par_none) (par_ret _))

def n73n_j5000004 (x : q24T) (k : q25T → Option Res) : Option Res :=
    loopK n73n_b0 Fuel (x.1, (0 : Int), x.2.1, x.2.2.1, x.2.2.2.1, x.2.2.2.2.1, x.2.2.2.2.2.1, x.2.2.2.2.2.2.1, x.2.2.2.2.2.2.2.1, x.2.2.2.2.2.2.2.2.1, x.2.2.2.2.2.2.2.2.2.1, x.2.2.2.2.2.2.2.2.2.2.1, x.2.2.2.2.2.2.2.2.2.2.2.1, x.2.2.2.2.2.2.2.2.2.2.2.2.1, x.2.2.2.2.2.2.2.2.2.2.2.2.2.1, x.2.2.2.2.2.2.2.2.2.2.2.2.2.2.1, x.2.2.2.2.2.2.2.2.2.2.2.2.2.2.2.1, x.2.2.2.2.2.2.2.2.2.2.2.2.2.2.2.2.1, x.2.2.2.2.2.2.2.2.2.2.2.2.2.2.2.2.2.1, x.2.2.2.2.2.2.2.2.2.2.2.2.2.2.2.2.2.2.1, x.2.2.2.2.2.2.2.2.2.2.2.2.2.2.2.2.2.2.2.1, x.2.2.2.2.2.2.2.2.2.2.2.2.2.2.2.2.2.2.2.2.1, x.2.2.2.2.2.2.2.2.2.2.2.2.2.2.2.2.2.2.2.2.2.1, x.2.2.2.2.2.2.2.2.2.2.2.2.2.2.2.2.2.2.2.2.2.2.1, x.2.2.2.2.2.2.2.2.2.2.2.2.2.2.2.2.2.2.2.2.2.2.2.1, x.2.2.2.2.2.2.2.2.2.2.2.2.2.2.2.2.2.2.2.2.2.2.2.2.1, x.2.2.2.2.2.2.2.2.2.2.2.2.2.2.2.2.2.2.2.2.2.2.2.2.2.1, x.2.2.2.2.2.2.2.2.2.2.2.2.2.2.2.2.2.2.2.2.2.2.2.2.2.2) (Sum.elim (fun z5 =>
      bif (decide ((z5.2.2.2.2.2.2.1.length : Int) ≥ (8 : Int))) then
        k (false, z5.2.2.1, z5.2.2.2.1, z5.2.2.2.2.1, z5.2.2.2.2.2.1, z5.2.2.2.2.2.2.1, z5.2.2.2.2.2.2.2.1, z5.2.2.2.2.2.2.2.2.1, z5.2.2.2.2.2.2.2.2.2.1, z5.2.2.2.2.2.2.2.2.2.2.1, z5.2.2.2.2.2.2.2.2.2.2.2.1, z5.2.2.2.2.2.2.2.2.2.2.2.2.2.2.2.2.2.2.1, z5.2.2.2.2.2.2.2.2.2.2.2.2.2.2.2.2.2.2.2.1, z5.2.2.2.2.2.2.2.2.2.2.2.2.2.2.2.2.2.2.2.2.1, z5.2.2.2.2.2.2.2.2.2.2.2.2.2.2.2.2.2.2.2.2.2.1, z5.2.2.2.2.2.2.2.2.2.2.2.2.2.2.2.2.2.2.2.2.2.2.1, z5.2.2.2.2.2.2.2.2.2.2.2.2.2.2.2.2.2.2.2.2.2.2.2.1, z5.2.2.2.2.2.2.2.2.2.2.2.2.2.2.2.2.2.2.1, z5.2.2.2.2.2.2.2.2.2.2.2.2.2.2.2.2.2.2.2.1, z5.2.2.2.2.2.2.2.2.2.2.2.2.2.2.2.2.2.2.2.2.1, z5.2.2.2.2.2.2.2.2.2.2.2.2.2.2.2.2.2.2.2.2.2.1, z5.2.2.2.2.2.2.2.2.2.2.2.2.2.2.2.2.2.2.2.2.2.2.1, z5.2.2.2.2.2.2.2.2.2.2.2.2.2.2.2.2.2.2.2.2.2.2.2.1, z5.2.2.2.2.2.2.2.2.2.2.2.2.2.2.2.2.2.2.2.2.2.2.2.2.2.2.1, z5.2.2.2.2.2.2.2.2.2.2.2.2.2.2.2.2.2.2.2.2.2.2.2.2.2.2.2)
      else
        if z5.2.2.2.2.2.2.2.2.2.2.2.2.2.2.2.2.2.2.2.2.2.2.2.2.2.2.1.length + [(z5.2.2.2.2.2.2.2.2.2.2.1, z5.2.2.2.2.2.2.2.2.2.2.2.1)].length ≤ VE.maxLen then
          k (true, z5.2.2.1, z5.2.2.2.1, z5.2.2.2.2.1, z5.2.2.2.2.2.1, z5.2.2.2.2.2.2.1, z5.2.2.2.2.2.2.2.1, z5.2.2.2.2.2.2.2.2.1, z5.2.2.2.2.2.2.2.2.2.1, z5.2.2.2.2.2.2.2.2.2.2.1, z5.2.2.2.2.2.2.2.2.2.2.2.1, z5.2.2.2.2.2.2.2.2.2.2.2.2.2.2.2.2.2.2.1, z5.2.2.2.2.2.2.2.2.2.2.2.2.2.2.2.2.2.2.2.1, z5.2.2.2.2.2.2.2.2.2.2.2.2.2.2.2.2.2.2.2.2.1, z5.2.2.2.2.2.2.2.2.2.2.2.2.2.2.2.2.2.2.2.2.2.1, z5.2.2.2.2.2.2.2.2.2.2.2.2.2.2.2.2.2.2.2.2.2.2.1, z5.2.2.2.2.2.2.2.2.2.2.2.2.2.2.2.2.2.2.2.2.2.2.2.1, z5.2.2.2.2.2.2.2.2.2.2.2.2.2.2.2.2.2.2.1, z5.2.2.2.2.2.2.2.2.2.2.2.2.2.2.2.2.2.2.2.1, z5.2.2.2.2.2.2.2.2.2.2.2.2.2.2.2.2.2.2.2.2.1, z5.2.2.2.2.2.2.2.2.2.2.2.2.2.2.2.2.2.2.2.2.2.1, z5.2.2.2.2.2.2.2.2.2.2.2.2.2.2.2.2.2.2.2.2.2.2.1, z5.2.2.2.2.2.2.2.2.2.2.2.2.2.2.2.2.2.2.2.2.2.2.2.1, (z5.2.2.2.2.2.2.2.2.2.2.2.2.2.2.2.2.2.2.2.2.2.2.2.2.2.2.1 ++ [(z5.2.2.2.2.2.2.2.2.2.2.1, z5.2.2.2.2.2.2.2.2.2.2.2.1)]), z5.2.2.2.2.2.2.2.2.2.2.2.2.2.2.2.2.2.2.2.2.2.2.2.2.2.2.2)
        else none) (fun z6 =>
      k (z6.1, z6.2.2.1, z6.2.2.2.1, z6.2.2.2.2.1, z6.2.2.2.2.2.1, z6.2.2.2.2.2.2.1, z6.2.2.2.2.2.2.2.1, z6.2.2.2.2.2.2.2.2.1, z6.2.2.2.2.2.2.2.2.2.1, z6.2.2.2.2.2.2.2.2.2.2.1, z6.2.2.2.2.2.2.2.2.2.2.2.1, z6.2.2.2.2.2.2.2.2.2.2.2.2.1, z6.2.2.2.2.2.2.2.2.2.2.2.2.2.1, z6.2.2.2.2.2.2.2.2.2.2.2.2.2.2.1, z6.2.2.2.2.2.2.2.2.2.2.2.2.2.2.2.1, z6.2.2.2.2.2.2.2.2.2.2.2.2.2.2.2.2.1, z6.2.2.2.2.2.2.2.2.2.2.2.2.2.2.2.2.2.1, z6.2.2.2.2.2.2.2.2.2.2.2.2.2.2.2.2.2.2.1, z6.2.2.2.2.2.2.2.2.2.2.2.2.2.2.2.2.2.2.2.1, z6.2.2.2.2.2.2.2.2.2.2.2.2.2.2.2.2.2.2.2.2.1, z6.2.2.2.2.2.2.2.2.2.2.2.2.2.2.2.2.2.2.2.2.2.1, z6.2.2.2.2.2.2.2.2.2.2.2.2.2.2.2.2.2.2.2.2.2.2.1, z6.2.2.2.2.2.2.2.2.2.2.2.2.2.2.2.2.2.2.2.2.2.2.2.1, z6.2.2.2.2.2.2.2.2.2.2.2.2.2.2.2.2.2.2.2.2.2.2.2.2.1, z6.2.2.2.2.2.2.2.2.2.2.2.2.2.2.2.2.2.2.2.2.2.2.2.2.2)))

theorem n73n_jp5000004 (x : q24T) : Par (n73n_j5000004 x) := by
  unfold n73n_j5000004
  exact ((par_loop n73n_bp0 Fuel (x.1, (0 : Int), x.2.1, x.2.2.1, x.2.2.2.1, x.2.2.2.2.1, x.2.2.2.2.2.1, x.2.2.2.2.2.2.1, x.2.2.2.2.2.2.2.1, x.2.2.2.2.2.2.2.2.1, x.2.2.2.2.2.2.2.2.2.1, x.2.2.2.2.2.2.2.2.2.2.1, x.2.2.2.2.2.2.2.2.2.2.2.1, x.2.2.2.2.2.2.2.2.2.2.2.2.1, x.2.2.2.2.2.2.2.2.2.2.2.2.2.1, x.2.2.2.2.2.2.2.2.2.2.2.2.2.2.1, x.2.2.2.2.2.2.2.2.2.2.2.2.2.2.2.1, x.2.2.2.2.2.2.2.2.2.2.2.2.2.2.2.2.1, x.2.2.2.2.2.2.2.2.2.2.2.2.2.2.2.2.2.1, x.2.2.2.2.2.2.2.2.2.2.2.2.2.2.2.2.2.2.1, x.2.2.2.2.2.2.2.2.2.2.2.2.2.2.2.2.2.2.2.1, x.2.2.2.2.2.2.2.2.2.2.2.2.2.2.2.2.2.2.2.2.1, x.2.2.2.2.2.2.2.2.2.2.2.2.2.2.2.2.2.2.2.2.2.1, x.2.2.2.2.2.2.2.2.2.2.2.2.2.2.2.2.2.2.2.2.2.2.1, x.2.2.2.2.2.2.2.2.2.2.2.2.2.2.2.2.2.2.2.2.2.2.2.1, x.2.2.2.2.2.2.2.2.2.2.2.2.2.2.2.2.2.2.2.2.2.2.2.2.1, x.2.2.2.2.2.2.2.2.2.2.2.2.2.2.2.2.2.2.2.2.2.2.2.2.2.1, x.2.2.2.2.2.2.2.2.2.2.2.2.2.2.2.2.2.2.2.2.2.2.2.2.2.2)).bind2 (fun z5 => (par_bif (par_ret _) (par_ite (c := z5.2.2.2.2.2.2.2.2.2.2.2.2.2.2.2.2.2.2.2.2.2.2.2.2.2.2.1.length + [(z5.2.2.2.2.2.2.2.2.2.2.1, z5.2.2.2.2.2.2.2.2.2.2.2.1)].length ≤ VE.maxLen) (par_ret _) par_none))) (fun z6 => (par_ret _)))

def n73n_d (a0 : dTxn) (a1 : dRange) (k : q41T → Option Res) : Option Res :=
  n80n_k a0 (fun y1 =>
    n75n_k a0 (fun y2 =>
      bif (!y2) then
        k (y1.1, y1.2.1, y1.2.2.1, y1.2.2.2.1, y1.2.2.2.2.1, y1.2.2.2.2.2.1, false, y1.2.2.2.2.2.2.1, y1.2.2.2.2.2.2.2)
      else
        bif (a0.2.1 != (1 : Int)) then
          k (y1.1, y1.2.1, y1.2.2.1, y1.2.2.2.1, y1.2.2.2.2.1, y1.2.2.2.2.2.1, false, y1.2.2.2.2.2.2.1, y1.2.2.2.2.2.2.2)
        else
          n72n_k a1 (fun y3 =>
            bif (!y3) then
              k (y1.1, y1.2.1, y1.2.2.1, y1.2.2.2.1, y1.2.2.2.2.1, y1.2.2.2.2.2.1, false, y1.2.2.2.2.2.2.1, y1.2.2.2.2.2.2.2)
            else
              n73n_j5000004 (false, a0.1, a0.2.1, a0.2.2.1, a0.2.2.2.1, a0.2.2.2.2.1, a0.2.2.2.2.2.1, a0.2.2.2.2.2.2.1, a0.2.2.2.2.2.2.2, a1.1, a1.2, (0 : Int), (0 : Int), (0 : Int), (0 : Int), false, (⟨#[]⟩ : ByteArray), y1.1, y1.2.1, y1.2.2.1, y1.2.2.2.1, y1.2.2.2.2.1, y1.2.2.2.2.2.1, ([] : List dRange), ([] : List dWrite), y1.2.2.2.2.2.2.1, y1.2.2.2.2.2.2.2) (fun z4 =>
                k (z4.2.2.2.2.2.2.2.2.2.2.2.1, z4.2.2.2.2.2.2.2.2.2.2.2.2.1, z4.2.2.2.2.2.2.2.2.2.2.2.2.2.1, z4.2.2.2.2.2.2.2.2.2.2.2.2.2.2.1, z4.2.2.2.2.2.2.2.2.2.2.2.2.2.2.2.1, z4.2.2.2.2.2.2.2.2.2.2.2.2.2.2.2.2.1, z4.1, z4.2.2.2.2.2.2.2.2.2.2.2.2.2.2.2.2.2.2.2.2.2.2.2.1, z4.2.2.2.2.2.2.2.2.2.2.2.2.2.2.2.2.2.2.2.2.2.2.2.2)))))

def n73n_k := shut n73n_d
theorem n73n_e : n73n_k = n73n_d := shut_eq _

theorem n73n_p (a0 : dTxn) (a1 : dRange) : Par (n73n_k a0 a1) := by
  rw [n73n_e]
  unfold n73n_d
  exact ((n80n_p a0).bind fun y1 => ((n75n_p a0).bind fun y2 => (par_bif (par_ret _) (par_bif (par_ret _) ((n72n_p a1).bind fun y3 => (par_bif (par_ret _) ((n73n_jp5000004 (false, a0.1, a0.2.1, a0.2.2.1, a0.2.2.2.1, a0.2.2.2.2.1, a0.2.2.2.2.2.1, a0.2.2.2.2.2.2.1, a0.2.2.2.2.2.2.2, a1.1, a1.2, (0 : Int), (0 : Int), (0 : Int), (0 : Int), false, (⟨#[]⟩ : ByteArray), y1.1, y1.2.1, y1.2.2.1, y1.2.2.2.1, y1.2.2.2.2.1, y1.2.2.2.2.2.1, ([] : List dRange), ([] : List dWrite), y1.2.2.2.2.2.2.1, y1.2.2.2.2.2.2.2)).bind fun z4 => (par_ret _))))))))

def n79n_b0 (x : q12T) (k : q12T ⊕ q12T → Option Res) : Option Res :=
    bif (decide (x.2.2.2.2 < (x.1.length : Int))) then
      if 0 ≤ x.2.2.2.2 ∧ x.2.2.2.2 < (x.1.length : Int) then
        bif (strEq ((rd (Ty.zero tVersion) x.1 x.2.2.2.2).1) x.2.1) then
          if 0 ≤ x.2.2.2.2 ∧ x.2.2.2.2 < (x.1.length : Int) then
            bif (decide ((rd (Ty.zero tVersion) x.1 x.2.2.2.2).2.2.2 ≤ x.2.2.1)) then
              bif (decide (x.2.2.2.1 < (0 : Int))) then
                k (.inl (x.1, x.2.1, x.2.2.1, x.2.2.2.2, (IntKind.wrap .i64 (x.2.2.2.2 + (1 : Int)))))
              else
                if 0 ≤ x.2.2.2.2 ∧ x.2.2.2.2 < (x.1.length : Int) then
                  if 0 ≤ x.2.2.2.1 ∧ x.2.2.2.1 < (x.1.length : Int) then
                    bif (decide ((rd (Ty.zero tVersion) x.1 x.2.2.2.2).2.2.2 > (rd (Ty.zero tVersion) x.1 x.2.2.2.1).2.2.2)) then
                      k (.inl (x.1, x.2.1, x.2.2.1, x.2.2.2.2, (IntKind.wrap .i64 (x.2.2.2.2 + (1 : Int)))))
                    else
                      k (.inl (x.1, x.2.1, x.2.2.1, x.2.2.2.1, (IntKind.wrap .i64 (x.2.2.2.2 + (1 : Int)))))
                  else none
                else none
            else
              k (.inl (x.1, x.2.1, x.2.2.1, x.2.2.2.1, (IntKind.wrap .i64 (x.2.2.2.2 + (1 : Int)))))
          else none
        else
          k (.inl (x.1, x.2.1, x.2.2.1, x.2.2.2.1, (IntKind.wrap .i64 (x.2.2.2.2 + (1 : Int)))))
      else none
    else
      k (.inr (x.1, x.2.1, x.2.2.1, x.2.2.2.1, x.2.2.2.2))

theorem n79n_bp0 (x : q12T) : Par (n79n_b0 x) := by
  unfold n79n_b0
  exact (par_bif (par_ite (c := 0 ≤ x.2.2.2.2 ∧ x.2.2.2.2 < (x.1.length : Int)) (par_bif (par_ite (c := 0 ≤ x.2.2.2.2 ∧ x.2.2.2.2 < (x.1.length : Int)) (par_bif (par_bif (par_ret _) (par_ite (c := 0 ≤ x.2.2.2.2 ∧ x.2.2.2.2 < (x.1.length : Int)) (par_ite (c := 0 ≤ x.2.2.2.1 ∧ x.2.2.2.1 < (x.1.length : Int)) (par_bif (par_ret _) (par_ret _)) par_none) par_none)) (par_ret _)) par_none) (par_ret _)) par_none) (par_ret _))

def n79n_d (a0 : (List dVersion)) (a1 : ByteArray) (a2 : Int) (k : Int → Option Res) : Option Res :=
  loopK n79n_b0 Fuel (a0, a1, a2, (-1 : Int), (0 : Int)) (fun z1 =>
    k z1.2.2.2.1)

def n79n_k := shut n79n_d
theorem n79n_e : n79n_k = n79n_d := shut_eq _

theorem n79n_p (a0 : (List dVersion)) (a1 : ByteArray) (a2 : Int) : Par (n79n_k a0 a1 a2) := by
  rw [n79n_e]
  unfold n79n_d
  exact ((par_loop n79n_bp0 Fuel (a0, a1, a2, (-1 : Int), (0 : Int))).bind fun z1 => (par_ret _))

def n74n_d (a0 : (List dVersion)) (a1 : ByteArray) (a2 : Int) (k : (ByteArray × Bool) → Option Res) : Option Res :=
  n79n_k a0 a1 a2 (fun y1 =>
    bif (decide (y1 < (0 : Int))) then
      k ((⟨#[]⟩ : ByteArray), false)
    else
      if 0 ≤ y1 ∧ y1 < (a0.length : Int) then
        bif (rd (Ty.zero tVersion) a0 y1).2.2.1 then
          k ((⟨#[]⟩ : ByteArray), false)
        else
          if 0 ≤ y1 ∧ y1 < (a0.length : Int) then
            k ((rd (Ty.zero tVersion) a0 y1).2.1, true)
          else none
      else none)

def n74n_k := shut n74n_d
theorem n74n_e : n74n_k = n74n_d := shut_eq _

theorem n74n_p (a0 : (List dVersion)) (a1 : ByteArray) (a2 : Int) : Par (n74n_k a0 a1 a2) := by
  rw [n74n_e]
  unfold n74n_d
  exact ((n79n_p a0 a1 a2).bind fun y1 => (par_bif (par_ret _) (par_ite (c := 0 ≤ y1 ∧ y1 < (a0.length : Int)) (par_bif (par_ret _) (par_ite (c := 0 ≤ y1 ∧ y1 < (a0.length : Int)) (par_ret _) par_none)) par_none)))

def n71n_b0 (x : q10T) (k : q10T ⊕ (q10T ⊕ q10T) → Option Res) : Option Res :=
    bif (decide (x.2.2.2.2.1 < (x.2.2.2.2.2.2.2.2.2.2.1.length : Int))) then
      if 0 ≤ x.2.2.2.2.1 ∧ x.2.2.2.2.1 < (x.2.2.2.2.2.2.2.2.2.2.1.length : Int) then
        bif (strEq ((rd (Ty.zero tWrite) x.2.2.2.2.2.2.2.2.2.2.1 x.2.2.2.2.1).1) x.2.1) then
          if 0 ≤ x.2.2.2.2.1 ∧ x.2.2.2.2.1 < (x.2.2.2.2.2.2.2.2.2.2.1.length : Int) then
            bif (rd (Ty.zero tWrite) x.2.2.2.2.2.2.2.2.2.2.1 x.2.2.2.2.1).2.2 then
              k (.inr (.inl (x.1, x.2.1, (⟨#[]⟩ : ByteArray), false, x.2.2.2.2.1, x.2.2.2.2.2.1, x.2.2.2.2.2.2.1, x.2.2.2.2.2.2.2.1, x.2.2.2.2.2.2.2.2.1, x.2.2.2.2.2.2.2.2.2.1, x.2.2.2.2.2.2.2.2.2.2.1, x.2.2.2.2.2.2.2.2.2.2.2.1, x.2.2.2.2.2.2.2.2.2.2.2.2)))
            else
              if 0 ≤ x.2.2.2.2.1 ∧ x.2.2.2.2.1 < (x.2.2.2.2.2.2.2.2.2.2.1.length : Int) then
                k (.inr (.inl (x.1, x.2.1, (rd (Ty.zero tWrite) x.2.2.2.2.2.2.2.2.2.2.1 x.2.2.2.2.1).2.1, true, x.2.2.2.2.1, x.2.2.2.2.2.1, x.2.2.2.2.2.2.1, x.2.2.2.2.2.2.2.1, x.2.2.2.2.2.2.2.2.1, x.2.2.2.2.2.2.2.2.2.1, x.2.2.2.2.2.2.2.2.2.2.1, x.2.2.2.2.2.2.2.2.2.2.2.1, x.2.2.2.2.2.2.2.2.2.2.2.2)))
              else none
          else none
        else
          k (.inl (x.1, x.2.1, x.2.2.1, x.2.2.2.1, (IntKind.wrap .i64 (x.2.2.2.2.1 + (1 : Int))), x.2.2.2.2.2.1, x.2.2.2.2.2.2.1, x.2.2.2.2.2.2.2.1, x.2.2.2.2.2.2.2.2.1, x.2.2.2.2.2.2.2.2.2.1, x.2.2.2.2.2.2.2.2.2.2.1, x.2.2.2.2.2.2.2.2.2.2.2.1, x.2.2.2.2.2.2.2.2.2.2.2.2))
      else none
    else
      k (.inr (.inr (x.1, x.2.1, x.2.2.1, x.2.2.2.1, x.2.2.2.2.1, x.2.2.2.2.2.1, x.2.2.2.2.2.2.1, x.2.2.2.2.2.2.2.1, x.2.2.2.2.2.2.2.2.1, x.2.2.2.2.2.2.2.2.2.1, x.2.2.2.2.2.2.2.2.2.2.1, x.2.2.2.2.2.2.2.2.2.2.2.1, x.2.2.2.2.2.2.2.2.2.2.2.2)))

theorem n71n_bp0 (x : q10T) : Par (n71n_b0 x) := by
  unfold n71n_b0
  exact (par_bif (par_ite (c := 0 ≤ x.2.2.2.2.1 ∧ x.2.2.2.2.1 < (x.2.2.2.2.2.2.2.2.2.2.1.length : Int)) (par_bif (par_ite (c := 0 ≤ x.2.2.2.2.1 ∧ x.2.2.2.2.1 < (x.2.2.2.2.2.2.2.2.2.2.1.length : Int)) (par_bif (par_ret _) (par_ite (c := 0 ≤ x.2.2.2.2.1 ∧ x.2.2.2.2.1 < (x.2.2.2.2.2.2.2.2.2.2.1.length : Int)) (par_ret _) par_none)) par_none) (par_ret _)) par_none) (par_ret _))

def n71n_d (a0 : dTxn) (a1 : (List dVersion)) (a2 : ByteArray) (k : (ByteArray × Bool) → Option Res) : Option Res :=
  loopK n71n_b0 Fuel (a1, a2, (⟨#[]⟩ : ByteArray), false, (0 : Int), a0.1, a0.2.1, a0.2.2.1, a0.2.2.2.1, a0.2.2.2.2.1, a0.2.2.2.2.2.1, a0.2.2.2.2.2.2.1, a0.2.2.2.2.2.2.2) (Sum.elim (fun z1 =>
    k (z1.2.2.1, z1.2.2.2.1)) (fun z2 =>
    n74n_k z2.1 z2.2.1 z2.2.2.2.2.2.2.2.1 (fun y3 =>
      k (y3.1, y3.2))))

def n71n_k := shut n71n_d
theorem n71n_e : n71n_k = n71n_d := shut_eq _

theorem n71n_p (a0 : dTxn) (a1 : (List dVersion)) (a2 : ByteArray) : Par (n71n_k a0 a1 a2) := by
  rw [n71n_e]
  unfold n71n_d
  exact ((par_loop n71n_bp0 Fuel (a1, a2, (⟨#[]⟩ : ByteArray), false, (0 : Int), a0.1, a0.2.1, a0.2.2.1, a0.2.2.2.1, a0.2.2.2.2.1, a0.2.2.2.2.2.1, a0.2.2.2.2.2.2.1, a0.2.2.2.2.2.2.2)).bind2 (fun z1 => (par_ret _)) (fun z2 => ((n74n_p z2.1 z2.2.1 z2.2.2.2.2.2.2.2.1).bind fun y3 => (par_ret _))))

def n68n_d (a0 : dEngine) (a1 : Int) (a2 : ByteArray) (k : q37T → Option Res) : Option Res :=
  n83n_k a0 (fun y1 =>
    n70n_k a0 a1 (fun y2 =>
      bif (decide (y2 < (0 : Int))) then
        k (y1.1, y1.2.1, (⟨#[]⟩ : ByteArray), false, (1 : Int), y1.2.2.1, y1.2.2.2.1, y1.2.2.2.2.1, y1.2.2.2.2.2)
      else
        n69n_k a2 (fun y3 =>
          bif (!y3) then
            k (y1.1, y1.2.1, (⟨#[]⟩ : ByteArray), false, (2 : Int), y1.2.2.1, y1.2.2.2.1, y1.2.2.2.2.1, y1.2.2.2.2.2)
          else
            if 0 ≤ y2 ∧ y2 < (a0.2.length : Int) then
              n73n_k (rd (Ty.zero tTxn) a0.2 y2) (a2, a2) (fun y4 =>
                bif (!y4.2.2.2.2.2.2.1) then
                  k (y1.1, y1.2.1, (⟨#[]⟩ : ByteArray), false, (3 : Int), y1.2.2.1, y1.2.2.2.1, y1.2.2.2.2.1, y1.2.2.2.2.2)
                else
                  if 0 ≤ y2 ∧ y2 < (y1.2.2.2.2.2.length : Int) then
                    n71n_k (y4.1, (y4.2.1, (y4.2.2.1, (y4.2.2.2.1, (y4.2.2.2.2.2.2.2.1, (y4.2.2.2.2.2.2.2.2, (y4.2.2.2.2.1, y4.2.2.2.2.2.1))))))) a0.1.1 a2 (fun y5 =>
                      k (y1.1, y1.2.1, y5.1, y5.2, (0 : Int), y1.2.2.1, y1.2.2.2.1, y1.2.2.2.2.1, (y1.2.2.2.2.2.set y2.toNat (y4.1, (y4.2.1, (y4.2.2.1, (y4.2.2.2.1, (y4.2.2.2.2.2.2.2.1, (y4.2.2.2.2.2.2.2.2, (y4.2.2.2.2.1, y4.2.2.2.2.2.1))))))))))
                  else none)
            else none)))

def n68n_k := shut n68n_d
theorem n68n_e : n68n_k = n68n_d := shut_eq _

theorem n68n_p (a0 : dEngine) (a1 : Int) (a2 : ByteArray) : Par (n68n_k a0 a1 a2) := by
  rw [n68n_e]
  unfold n68n_d
  exact ((n83n_p a0).bind fun y1 => ((n70n_p a0 a1).bind fun y2 => (par_bif (par_ret _) ((n69n_p a2).bind fun y3 => (par_bif (par_ret _) (par_ite (c := 0 ≤ y2 ∧ y2 < (a0.2.length : Int)) ((n73n_p (rd (Ty.zero tTxn) a0.2 y2) (a2, a2)).bind fun y4 => (par_bif (par_ret _) (par_ite (c := 0 ≤ y2 ∧ y2 < (y1.2.2.2.2.2.length : Int)) ((n71n_p (y4.1, (y4.2.1, (y4.2.2.1, (y4.2.2.2.1, (y4.2.2.2.2.2.2.2.1, (y4.2.2.2.2.2.2.2.2, (y4.2.2.2.2.1, y4.2.2.2.2.2.1))))))) a0.1.1 a2).bind fun y5 => (par_ret _)) par_none))) par_none))))))

def n19n_d (a0 : Int) (a1 : Int) (a2 : Int) (k : Bool → Option Res) : Option Res :=
  bif (decide (a0 ≥ a1)) then
    k (decide (a0 ≤ a2))
  else
    k false

def n19n_k := shut n19n_d
theorem n19n_e : n19n_k = n19n_d := shut_eq _

theorem n19n_p (a0 : Int) (a1 : Int) (a2 : Int) : Par (n19n_k a0 a1 a2) := by
  rw [n19n_e]
  unfold n19n_d
  exact (par_bif (par_ret _) (par_ret _))

def n01n_b0 (x : (ByteArray × Bool × Int)) (k : (ByteArray × Bool × Int) ⊕ ((ByteArray × Bool × Int) ⊕ (ByteArray × Bool × Int)) → Option Res) : Option Res :=
    bif (decide (x.2.2 < (x.1.size : Int))) then
      if 0 ≤ x.2.2 ∧ x.2.2 < (x.1.size : Int) then
        bif (decide ((bt x.1 x.2.2) < (97 : Int))) then
          k (.inr (.inl (x.1, false, x.2.2)))
        else
          if 0 ≤ x.2.2 ∧ x.2.2 < (x.1.size : Int) then
            bif (decide ((bt x.1 x.2.2) > (122 : Int))) then
              k (.inr (.inl (x.1, false, x.2.2)))
            else
              k (.inl (x.1, x.2.1, (IntKind.wrap .i64 (x.2.2 + (1 : Int)))))
          else none
      else none
    else
      k (.inr (.inr (x.1, x.2.1, x.2.2)))

theorem n01n_bp0 (x : (ByteArray × Bool × Int)) : Par (n01n_b0 x) := by
  unfold n01n_b0
  exact (par_bif (par_ite (c := 0 ≤ x.2.2 ∧ x.2.2 < (x.1.size : Int)) (par_bif (par_ret _) (par_ite (c := 0 ≤ x.2.2 ∧ x.2.2 < (x.1.size : Int)) (par_bif (par_ret _) (par_ret _)) par_none)) par_none) (par_ret _))

def n01n_d (a0 : ByteArray) (k : Bool → Option Res) : Option Res :=
  loopK n01n_b0 Fuel (a0, false, (0 : Int)) (Sum.elim (fun z1 =>
    k z1.2.1) (fun z2 =>
    n19n_k (z2.1.size : Int) (1 : Int) (3 : Int) (fun y3 =>
      k y3)))

def n01n_k := shut n01n_d
theorem n01n_e : n01n_k = n01n_d := shut_eq _

theorem n01n_p (a0 : ByteArray) : Par (n01n_k a0) := by
  rw [n01n_e]
  unfold n01n_d
  exact ((par_loop n01n_bp0 Fuel (a0, false, (0 : Int))).bind2 (fun z1 => (par_ret _)) (fun z2 => ((n19n_p (z2.1.size : Int) (1 : Int) (3 : Int)).bind fun y3 => (par_ret _))))

def n13n_d (a0 : dTxn) (k : q40T → Option Res) : Option Res :=
  if a0.2.2.2.2.1.length ≤ VE.maxLen then
    if a0.2.2.2.2.2.1.length ≤ VE.maxLen then
      k (a0.1, a0.2.1, a0.2.2.1, a0.2.2.2.1, a0.2.2.2.2.2.2.1, a0.2.2.2.2.2.2.2, a0.2.2.2.2.1, a0.2.2.2.2.2.1)
    else none
  else none

def n13n_k := shut n13n_d
theorem n13n_e : n13n_k = n13n_d := shut_eq _

theorem n13n_p (a0 : dTxn) : Par (n13n_k a0) := by
  rw [n13n_e]
  unfold n13n_d
  exact (par_ite (c := a0.2.2.2.2.1.length ≤ VE.maxLen) (par_ite (c := a0.2.2.2.2.2.1.length ≤ VE.maxLen) (par_ret _) par_none) par_none)

def n14n_b0 (x : q6T) (k : q6T ⊕ q6T → Option Res) : Option Res :=
    bif (decide (x.2.2.1 < x.2.1)) then
      if 0 ≤ x.2.2.1 ∧ x.2.2.1 < (x.1.length : Int) then
        n13n_k (rd (Ty.zero tTxn) x.1 x.2.2.1) (fun y2 =>
          if x.2.2.2.length + [(y2.1, (y2.2.1, (y2.2.2.1, (y2.2.2.2.1, (y2.2.2.2.2.2.2.1, (y2.2.2.2.2.2.2.2, (y2.2.2.2.2.1, y2.2.2.2.2.2.1)))))))].length ≤ VE.maxLen then
            k (.inl (x.1, x.2.1, (IntKind.wrap .i64 (x.2.2.1 + (1 : Int))), (x.2.2.2 ++ [(y2.1, (y2.2.1, (y2.2.2.1, (y2.2.2.2.1, (y2.2.2.2.2.2.2.1, (y2.2.2.2.2.2.2.2, (y2.2.2.2.2.1, y2.2.2.2.2.2.1)))))))])))
          else none)
      else none
    else
      k (.inr (x.1, x.2.1, x.2.2.1, x.2.2.2))

theorem n14n_bp0 (x : q6T) : Par (n14n_b0 x) := by
  unfold n14n_b0
  exact (par_bif (par_ite (c := 0 ≤ x.2.2.1 ∧ x.2.2.1 < (x.1.length : Int)) ((n13n_p (rd (Ty.zero tTxn) x.1 x.2.2.1)).bind fun y2 => (par_ite (c := x.2.2.2.length + [(y2.1, (y2.2.1, (y2.2.2.1, (y2.2.2.2.1, (y2.2.2.2.2.2.2.1, (y2.2.2.2.2.2.2.2, (y2.2.2.2.2.1, y2.2.2.2.2.2.1)))))))].length ≤ VE.maxLen) (par_ret _) par_none)) par_none) (par_ret _))

def n14n_d (a0 : (List dTxn)) (k : (List dTxn) → Option Res) : Option Res :=
  loopK n14n_b0 Fuel (a0, (a0.length : Int), (0 : Int), ([] : List dTxn)) (fun z1 =>
    k z1.2.2.2)

def n14n_k := shut n14n_d
theorem n14n_e : n14n_k = n14n_d := shut_eq _

theorem n14n_p (a0 : (List dTxn)) : Par (n14n_k a0) := by
  rw [n14n_e]
  unfold n14n_d
  exact ((par_loop n14n_bp0 Fuel (a0, (a0.length : Int), (0 : Int), ([] : List dTxn))).bind fun z1 => (par_ret _))

def n11n_d (a0 : dBase) (k : q36T → Option Res) : Option Res :=
  if a0.1.length ≤ VE.maxLen then
    n14n_k a0.2.1 (fun y1 =>
      n14n_k a0.2.2.1 (fun y2 =>
        k (a0.2.2.2.1, a0.2.2.2.2, a0.1, y1, y2)))
  else none

def n11n_k := shut n11n_d
theorem n11n_e : n11n_k = n11n_d := shut_eq _

theorem n11n_p (a0 : dBase) : Par (n11n_k a0) := by
  rw [n11n_e]
  unfold n11n_d
  exact (par_ite (c := a0.1.length ≤ VE.maxLen) ((n14n_p a0.2.1).bind fun y1 => ((n14n_p a0.2.2.1).bind fun y2 => (par_ret _))) par_none)

def n12n_d (a0 : dEngine) (k : q35T → Option Res) : Option Res :=
  n11n_k a0.1 (fun y1 =>
    n14n_k a0.2 (fun y2 =>
      k (y1.1, y1.2.1, y1.2.2.1, y1.2.2.2.1, y1.2.2.2.2, y2)))

def n12n_k := shut n12n_d
theorem n12n_e : n12n_k = n12n_d := shut_eq _

theorem n12n_p (a0 : dEngine) : Par (n12n_k a0) := by
  rw [n12n_e]
  unfold n12n_d
  exact ((n11n_p a0.1).bind fun y1 => ((n14n_p a0.2).bind fun y2 => (par_ret _)))

def n03n_d (a0 : dTxn) (a1 : Int) (k : (Bool × Int) → Option Res) : Option Res :=
  k ((a0.1 == a1), a1)

def n03n_k := shut n03n_d
theorem n03n_e : n03n_k = n03n_d := shut_eq _

theorem n03n_p (a0 : dTxn) (a1 : Int) : Par (n03n_k a0 a1) := by
  rw [n03n_e]
  unfold n03n_d
  exact (par_ret _)

def n65n_b0 (x : q7T) (k : q7T ⊕ (q7T ⊕ q7T) → Option Res) : Option Res :=
    bif (decide (x.2.2.2.1 < x.2.2.1)) then
      if 0 ≤ x.2.2.2.1 ∧ x.2.2.2.1 < (x.1.length : Int) then
        n03n_k (rd (Ty.zero tTxn) x.1 x.2.2.2.1) x.2.2.2.2 (fun y3 =>
          bif y3.1 then
            k (.inr (.inl (x.1, x.2.2.2.1, x.2.2.1, x.2.2.2.1, y3.2)))
          else
            k (.inl (x.1, x.2.1, x.2.2.1, (IntKind.wrap .i64 (x.2.2.2.1 + (1 : Int))), y3.2)))
      else none
    else
      k (.inr (.inr (x.1, x.2.1, x.2.2.1, x.2.2.2.1, x.2.2.2.2)))

theorem n65n_bp0 (x : q7T) : Par (n65n_b0 x) := by
  unfold n65n_b0
  exact (par_bif (par_ite (c := 0 ≤ x.2.2.2.1 ∧ x.2.2.2.1 < (x.1.length : Int)) ((n03n_p (rd (Ty.zero tTxn) x.1 x.2.2.2.1) x.2.2.2.2).bind fun y3 => (par_bif (par_ret _) (par_ret _))) par_none) (par_ret _))

def n65n_d (a0 : (List dTxn)) (a1 : Int) (k : (Int × Int) → Option Res) : Option Res :=
  loopK n65n_b0 Fuel (a0, (0 : Int), (a0.length : Int), (0 : Int), a1) (Sum.elim (fun z1 =>
    k (z1.2.1, z1.2.2.2.2)) (fun z2 =>
    k ((-1 : Int), z2.2.2.2.2)))

def n65n_k := shut n65n_d
theorem n65n_e : n65n_k = n65n_d := shut_eq _

theorem n65n_p (a0 : (List dTxn)) (a1 : Int) : Par (n65n_k a0 a1) := by
  rw [n65n_e]
  unfold n65n_d
  exact ((par_loop n65n_bp0 Fuel (a0, (0 : Int), (a0.length : Int), (0 : Int), a1)).bind2 (fun z1 => (par_ret _)) (fun z2 => (par_ret _)))

def n02n_d (a0 : dEngine) (a1 : Int) (k : Int → Option Res) : Option Res :=
  n65n_k a0.2 a1 (fun y1 =>
    k y1.1)

def n02n_k := shut n02n_d
theorem n02n_e : n02n_k = n02n_d := shut_eq _

theorem n02n_p (a0 : dEngine) (a1 : Int) : Par (n02n_k a0 a1) := by
  rw [n02n_e]
  unfold n02n_d
  exact ((n65n_p a0.2 a1).bind fun y1 => (par_ret _))

def n05n_d (a0 : dRange) (k : Bool → Option Res) : Option Res :=
  n01n_k a0.1 (fun y1 =>
    bif y1 then
      n01n_k a0.2 (fun y2 =>
        bif y2 then
          k ((strLess a0.1 a0.2) || (strEq a0.1 a0.2))
        else
          k false)
    else
      k false)

def n05n_k := shut n05n_d
theorem n05n_e : n05n_k = n05n_d := shut_eq _

theorem n05n_p (a0 : dRange) : Par (n05n_k a0) := by
  rw [n05n_e]
  unfold n05n_d
  exact ((n01n_p a0.1).bind fun y1 => (par_bif ((n01n_p a0.2).bind fun y2 => (par_bif (par_ret _) (par_ret _))) (par_ret _)))

def n09n_d (a0 : dWrite) (k : Bool → Option Res) : Option Res :=
  n01n_k a0.1 (fun y1 =>
    bif y1 then
      bif (decide ((a0.2.1.size : Int) ≤ (12 : Int))) then
        bif (!a0.2.2) then
          k true
        else
          k (strEq a0.2.1 (⟨#[]⟩ : ByteArray))
      else
        k false
    else
      k false)

def n09n_k := shut n09n_d
theorem n09n_e : n09n_k = n09n_d := shut_eq _

theorem n09n_p (a0 : dWrite) : Par (n09n_k a0) := by
  rw [n09n_e]
  unfold n09n_d
  exact ((n01n_p a0.1).bind fun y1 => (par_bif (par_bif (par_bif (par_ret _) (par_ret _)) (par_ret _)) (par_ret _)))

def n10n_b0 (x : q16T) (k : q16T ⊕ (q16T ⊕ q16T) → Option Res) : Option Res :=
    bif (decide (x.2.2.2.2 < x.2.2.2.1)) then
      if 0 ≤ x.2.2.2.2 ∧ x.2.2.2.2 < (x.2.2.1.length : Int) then
        n09n_k (rd (Ty.zero tWrite) x.2.2.1 x.2.2.2.2) (fun y3 =>
          bif (!y3) then
            k (.inr (.inl (x.1, false, x.2.2.1, x.2.2.2.1, x.2.2.2.2)))
          else
            bif (decide (x.2.2.2.2 > (0 : Int))) then
              if 0 ≤ (IntKind.wrap .i64 (x.2.2.2.2 - (1 : Int))) ∧ (IntKind.wrap .i64 (x.2.2.2.2 - (1 : Int))) < (x.1.length : Int) then
                bif (!(strLess ((rd (Ty.zero tWrite) x.1 (IntKind.wrap .i64 (x.2.2.2.2 - (1 : Int)))).1) ((rd (Ty.zero tWrite) x.2.2.1 x.2.2.2.2).1))) then
                  k (.inr (.inl (x.1, false, x.2.2.1, x.2.2.2.1, x.2.2.2.2)))
                else
                  k (.inl (x.1, x.2.1, x.2.2.1, x.2.2.2.1, (IntKind.wrap .i64 (x.2.2.2.2 + (1 : Int)))))
              else none
            else
              k (.inl (x.1, x.2.1, x.2.2.1, x.2.2.2.1, (IntKind.wrap .i64 (x.2.2.2.2 + (1 : Int))))))
      else none
    else
      k (.inr (.inr (x.1, x.2.1, x.2.2.1, x.2.2.2.1, x.2.2.2.2)))

theorem n10n_bp0 (x : q16T) : Par (n10n_b0 x) := by
  unfold n10n_b0
  exact (par_bif (par_ite (c := 0 ≤ x.2.2.2.2 ∧ x.2.2.2.2 < (x.2.2.1.length : Int)) ((n09n_p (rd (Ty.zero tWrite) x.2.2.1 x.2.2.2.2)).bind fun y3 => (par_bif (par_ret _) (par_bif (par_ite (c := 0 ≤ (IntKind.wrap .i64 (x.2.2.2.2 - (1 : Int))) ∧ (IntKind.wrap .i64 (x.2.2.2.2 - (1 : Int))) < (x.1.length : Int)) (par_bif (par_ret _) (par_ret _)) par_none) (par_ret _)))) par_none) (par_ret _))

def n10n_d (a0 : (List dWrite)) (k : Bool → Option Res) : Option Res :=
  loopK n10n_b0 Fuel (a0, false, a0, (a0.length : Int), (0 : Int)) (Sum.elim (fun z1 =>
    k z1.2.1) (fun z2 =>
    k (decide ((z2.1.length : Int) ≤ (8 : Int)))))

def n10n_k := shut n10n_d
theorem n10n_e : n10n_k = n10n_d := shut_eq _

theorem n10n_p (a0 : (List dWrite)) : Par (n10n_k a0) := by
  rw [n10n_e]
  unfold n10n_d
  exact ((par_loop n10n_bp0 Fuel (a0, false, a0, (a0.length : Int), (0 : Int))).bind2 (fun z1 => (par_ret _)) (fun z2 => (par_ret _)))

def n08n_j5000011 (x : q26T) (k : q26T → Option Res) : Option Res :=
    bif (x.2.2.1 == (2 : Int)) then
      n01n_k x.2.2.2.2.2.2.2.2 (fun y15 =>
        bif y15 then
          k (true, x.2.1, x.2.2.1, x.2.2.2.1, x.2.2.2.2.1, x.2.2.2.2.2.1, x.2.2.2.2.2.2.1, x.2.2.2.2.2.2.2.1, x.2.2.2.2.2.2.2.2)
        else
          bif (x.2.2.1 != (2 : Int)) then
            k ((strEq x.2.2.2.2.2.2.2.2 (⟨#[]⟩ : ByteArray)), x.2.1, x.2.2.1, x.2.2.2.1, x.2.2.2.2.1, x.2.2.2.2.2.1, x.2.2.2.2.2.2.1, x.2.2.2.2.2.2.2.1, x.2.2.2.2.2.2.2.2)
          else
            k (false, x.2.1, x.2.2.1, x.2.2.2.1, x.2.2.2.2.1, x.2.2.2.2.2.1, x.2.2.2.2.2.2.1, x.2.2.2.2.2.2.2.1, x.2.2.2.2.2.2.2.2))
    else
      bif (x.2.2.1 != (2 : Int)) then
        k ((strEq x.2.2.2.2.2.2.2.2 (⟨#[]⟩ : ByteArray)), x.2.1, x.2.2.1, x.2.2.2.1, x.2.2.2.2.1, x.2.2.2.2.2.1, x.2.2.2.2.2.2.1, x.2.2.2.2.2.2.2.1, x.2.2.2.2.2.2.2.2)
      else
        k (false, x.2.1, x.2.2.1, x.2.2.2.1, x.2.2.2.2.1, x.2.2.2.2.2.1, x.2.2.2.2.2.2.1, x.2.2.2.2.2.2.2.1, x.2.2.2.2.2.2.2.2)

theorem n08n_jp5000011 (x : q26T) : Par (n08n_j5000011 x) := by
  unfold n08n_j5000011
  exact (par_bif ((n01n_p x.2.2.2.2.2.2.2.2).bind fun y15 => (par_bif (par_ret _) (par_bif (par_ret _) (par_ret _)))) (par_bif (par_ret _) (par_ret _)))

def n08n_j5000009 (x : q26T) (k : q26T → Option Res) : Option Res :=
    bif (x.2.2.1 == (3 : Int)) then
      n19n_k x.2.2.2.2.1 (IntKind.wrap .i64 (x.2.2.2.1 + (1 : Int))) (9999 : Int) (fun y10 =>
        bif (!y10) then
          k (false, x.2.1, x.2.2.1, x.2.2.2.1, x.2.2.2.2.1, x.2.2.2.2.2.1, x.2.2.2.2.2.2.1, x.2.2.2.2.2.2.2.1, x.2.2.2.2.2.2.2.2)
        else
          bif (x.2.2.1 != (3 : Int)) then
            bif (x.2.2.2.2.1 != (0 : Int)) then
              k (false, x.2.1, x.2.2.1, x.2.2.2.1, x.2.2.2.2.1, x.2.2.2.2.2.1, x.2.2.2.2.2.2.1, x.2.2.2.2.2.2.2.1, x.2.2.2.2.2.2.2.2)
            else
              n08n_j5000011 (x.1, x.2.1, x.2.2.1, x.2.2.2.1, x.2.2.2.2.1, x.2.2.2.2.2.1, x.2.2.2.2.2.2.1, x.2.2.2.2.2.2.2.1, x.2.2.2.2.2.2.2.2) (fun z11 =>
                k (z11.1, z11.2.1, z11.2.2.1, z11.2.2.2.1, z11.2.2.2.2.1, z11.2.2.2.2.2.1, z11.2.2.2.2.2.2.1, z11.2.2.2.2.2.2.2.1, z11.2.2.2.2.2.2.2.2))
          else
            n08n_j5000011 (x.1, x.2.1, x.2.2.1, x.2.2.2.1, x.2.2.2.2.1, x.2.2.2.2.2.1, x.2.2.2.2.2.2.1, x.2.2.2.2.2.2.2.1, x.2.2.2.2.2.2.2.2) (fun z12 =>
              k (z12.1, z12.2.1, z12.2.2.1, z12.2.2.2.1, z12.2.2.2.2.1, z12.2.2.2.2.2.1, z12.2.2.2.2.2.2.1, z12.2.2.2.2.2.2.2.1, z12.2.2.2.2.2.2.2.2)))
    else
      bif (x.2.2.1 != (3 : Int)) then
        bif (x.2.2.2.2.1 != (0 : Int)) then
          k (false, x.2.1, x.2.2.1, x.2.2.2.1, x.2.2.2.2.1, x.2.2.2.2.2.1, x.2.2.2.2.2.2.1, x.2.2.2.2.2.2.2.1, x.2.2.2.2.2.2.2.2)
        else
          n08n_j5000011 (x.1, x.2.1, x.2.2.1, x.2.2.2.1, x.2.2.2.2.1, x.2.2.2.2.2.1, x.2.2.2.2.2.2.1, x.2.2.2.2.2.2.2.1, x.2.2.2.2.2.2.2.2) (fun z13 =>
            k (z13.1, z13.2.1, z13.2.2.1, z13.2.2.2.1, z13.2.2.2.2.1, z13.2.2.2.2.2.1, z13.2.2.2.2.2.2.1, z13.2.2.2.2.2.2.2.1, z13.2.2.2.2.2.2.2.2))
      else
        n08n_j5000011 (x.1, x.2.1, x.2.2.1, x.2.2.2.1, x.2.2.2.2.1, x.2.2.2.2.2.1, x.2.2.2.2.2.2.1, x.2.2.2.2.2.2.2.1, x.2.2.2.2.2.2.2.2) (fun z14 =>
          k (z14.1, z14.2.1, z14.2.2.1, z14.2.2.2.1, z14.2.2.2.2.1, z14.2.2.2.2.2.1, z14.2.2.2.2.2.2.1, z14.2.2.2.2.2.2.2.1, z14.2.2.2.2.2.2.2.2))

theorem n08n_jp5000009 (x : q26T) : Par (n08n_j5000009 x) := by
  unfold n08n_j5000009
  exact (par_bif ((n19n_p x.2.2.2.2.1 (IntKind.wrap .i64 (x.2.2.2.1 + (1 : Int))) (9999 : Int)).bind fun y10 => (par_bif (par_ret _) (par_bif (par_bif (par_ret _) ((n08n_jp5000011 (x.1, x.2.1, x.2.2.1, x.2.2.2.1, x.2.2.2.2.1, x.2.2.2.2.2.1, x.2.2.2.2.2.2.1, x.2.2.2.2.2.2.2.1, x.2.2.2.2.2.2.2.2)).bind fun z11 => (par_ret _))) ((n08n_jp5000011 (x.1, x.2.1, x.2.2.1, x.2.2.2.1, x.2.2.2.2.1, x.2.2.2.2.2.1, x.2.2.2.2.2.2.1, x.2.2.2.2.2.2.2.1, x.2.2.2.2.2.2.2.2)).bind fun z12 => (par_ret _))))) (par_bif (par_bif (par_ret _) ((n08n_jp5000011 (x.1, x.2.1, x.2.2.1, x.2.2.2.1, x.2.2.2.2.1, x.2.2.2.2.2.1, x.2.2.2.2.2.2.1, x.2.2.2.2.2.2.2.1, x.2.2.2.2.2.2.2.2)).bind fun z13 => (par_ret _))) ((n08n_jp5000011 (x.1, x.2.1, x.2.2.1, x.2.2.2.1, x.2.2.2.2.1, x.2.2.2.2.2.1, x.2.2.2.2.2.2.1, x.2.2.2.2.2.2.2.1, x.2.2.2.2.2.2.2.2)).bind fun z14 => (par_ret _))))

def n08n_b0 (x : q20T) (k : q20T ⊕ (q20T ⊕ q20T) → Option Res) : Option Res :=
    bif (decide (x.2.2.2.1 < x.2.2.1)) then
      if 0 ≤ x.2.2.2.1 ∧ x.2.2.2.1 < (x.2.1.length : Int) then
        n05n_k (rd (Ty.zero tRange) x.2.1 x.2.2.2.1) (fun y9 =>
          bif (!y9) then
            k (.inr (.inl (false, x.2.1, x.2.2.1, x.2.2.2.1, x.2.2.2.2.1, x.2.2.2.2.2.1, x.2.2.2.2.2.2.1, x.2.2.2.2.2.2.2.1, x.2.2.2.2.2.2.2.2.1, x.2.2.2.2.2.2.2.2.2.1, x.2.2.2.2.2.2.2.2.2.2.1, x.2.2.2.2.2.2.2.2.2.2.2)))
          else
            k (.inl (x.1, x.2.1, x.2.2.1, (IntKind.wrap .i64 (x.2.2.2.1 + (1 : Int))), x.2.2.2.2.1, x.2.2.2.2.2.1, x.2.2.2.2.2.2.1, x.2.2.2.2.2.2.2.1, x.2.2.2.2.2.2.2.2.1, x.2.2.2.2.2.2.2.2.2.1, x.2.2.2.2.2.2.2.2.2.2.1, x.2.2.2.2.2.2.2.2.2.2.2)))
      else none
    else
      k (.inr (.inr (x.1, x.2.1, x.2.2.1, x.2.2.2.1, x.2.2.2.2.1, x.2.2.2.2.2.1, x.2.2.2.2.2.2.1, x.2.2.2.2.2.2.2.1, x.2.2.2.2.2.2.2.2.1, x.2.2.2.2.2.2.2.2.2.1, x.2.2.2.2.2.2.2.2.2.2.1, x.2.2.2.2.2.2.2.2.2.2.2)))

theorem n08n_bp0 (x : q20T) : Par (n08n_b0 x) := by
  unfold n08n_b0
  exact (par_bif (par_ite (c := 0 ≤ x.2.2.2.1 ∧ x.2.2.2.1 < (x.2.1.length : Int)) ((n05n_p (rd (Ty.zero tRange) x.2.1 x.2.2.2.1)).bind fun y9 => (par_bif (par_ret _) (par_ret _))) par_none) (par_ret _))

def n08n_d (a0 : dTxn) (k : Bool → Option Res) : Option Res :=
  loopK n08n_b0 Fuel (false, a0.2.2.2.2.1, (a0.2.2.2.2.1.length : Int), (0 : Int), a0.1, a0.2.1, a0.2.2.1, a0.2.2.2.1, a0.2.2.2.2.1, a0.2.2.2.2.2.1, a0.2.2.2.2.2.2.1, a0.2.2.2.2.2.2.2) (Sum.elim (fun z1 =>
    k z1.1) (fun z2 =>
    n19n_k z2.2.2.2.2.1 (1 : Int) (9999 : Int) (fun y3 =>
      bif (!y3) then
        k false
      else
        n19n_k z2.2.2.2.2.2.1 (1 : Int) (3 : Int) (fun y4 =>
          bif (!y4) then
            k false
          else
            n19n_k z2.2.2.2.2.2.2.1 (0 : Int) (9999 : Int) (fun y5 =>
              bif (!y5) then
                k false
              else
                bif (decide ((z2.2.2.2.2.2.2.2.2.1.length : Int) > (8 : Int))) then
                  k false
                else
                  n10n_k z2.2.2.2.2.2.2.2.2.2.1 (fun y6 =>
                    bif (!y6) then
                      k false
                    else
                      bif z2.2.2.2.2.2.2.2.2.2.2.1 then
                        bif (z2.2.2.2.2.2.1 == (1 : Int)) then
                          k false
                        else
                          n08n_j5000009 (z2.1, z2.2.2.2.2.1, z2.2.2.2.2.2.1, z2.2.2.2.2.2.2.1, z2.2.2.2.2.2.2.2.1, z2.2.2.2.2.2.2.2.2.1, z2.2.2.2.2.2.2.2.2.2.1, z2.2.2.2.2.2.2.2.2.2.2.1, z2.2.2.2.2.2.2.2.2.2.2.2) (fun z7 =>
                            k z7.1)
                      else
                        n08n_j5000009 (z2.1, z2.2.2.2.2.1, z2.2.2.2.2.2.1, z2.2.2.2.2.2.2.1, z2.2.2.2.2.2.2.2.1, z2.2.2.2.2.2.2.2.2.1, z2.2.2.2.2.2.2.2.2.2.1, z2.2.2.2.2.2.2.2.2.2.2.1, z2.2.2.2.2.2.2.2.2.2.2.2) (fun z8 =>
                          k z8.1)))))))

def n08n_k := shut n08n_d
theorem n08n_e : n08n_k = n08n_d := shut_eq _

theorem n08n_p (a0 : dTxn) : Par (n08n_k a0) := by
  rw [n08n_e]
  unfold n08n_d
  exact ((par_loop n08n_bp0 Fuel (false, a0.2.2.2.2.1, (a0.2.2.2.2.1.length : Int), (0 : Int), a0.1, a0.2.1, a0.2.2.1, a0.2.2.2.1, a0.2.2.2.2.1, a0.2.2.2.2.2.1, a0.2.2.2.2.2.2.1, a0.2.2.2.2.2.2.2)).bind2 (fun z1 => (par_ret _)) (fun z2 => ((n19n_p z2.2.2.2.2.1 (1 : Int) (9999 : Int)).bind fun y3 => (par_bif (par_ret _) ((n19n_p z2.2.2.2.2.2.1 (1 : Int) (3 : Int)).bind fun y4 => (par_bif (par_ret _) ((n19n_p z2.2.2.2.2.2.2.1 (0 : Int) (9999 : Int)).bind fun y5 => (par_bif (par_ret _) (par_bif (par_ret _) ((n10n_p z2.2.2.2.2.2.2.2.2.2.1).bind fun y6 => (par_bif (par_ret _) (par_bif (par_bif (par_ret _) ((n08n_jp5000009 (z2.1, z2.2.2.2.2.1, z2.2.2.2.2.2.1, z2.2.2.2.2.2.2.1, z2.2.2.2.2.2.2.2.1, z2.2.2.2.2.2.2.2.2.1, z2.2.2.2.2.2.2.2.2.2.1, z2.2.2.2.2.2.2.2.2.2.2.1, z2.2.2.2.2.2.2.2.2.2.2.2)).bind fun z7 => (par_ret _))) ((n08n_jp5000009 (z2.1, z2.2.2.2.2.1, z2.2.2.2.2.2.1, z2.2.2.2.2.2.2.1, z2.2.2.2.2.2.2.2.1, z2.2.2.2.2.2.2.2.2.1, z2.2.2.2.2.2.2.2.2.2.1, z2.2.2.2.2.2.2.2.2.2.2.1, z2.2.2.2.2.2.2.2.2.2.2.2)).bind fun z8 => (par_ret _))))))))))))))

def n67n_b0 (x : q2T) (k : q2T ⊕ (q2T ⊕ q2T) → Option Res) : Option Res :=
    bif (decide (x.2.2.2.1 < x.2.2.1)) then
      if 0 ≤ x.2.2.2.1 ∧ x.2.2.2.1 < (x.1.length : Int) then
        bif (Ty.eqB tRange x.2.2.2.2 (rd (Ty.zero tRange) x.1 x.2.2.2.1)) then
          k (.inr (.inl (x.1, x.2.2.2.1, x.2.2.1, x.2.2.2.1, x.2.2.2.2.1, x.2.2.2.2.2)))
        else
          k (.inl (x.1, x.2.1, x.2.2.1, (IntKind.wrap .i64 (x.2.2.2.1 + (1 : Int))), x.2.2.2.2.1, x.2.2.2.2.2))
      else none
    else
      k (.inr (.inr (x.1, x.2.1, x.2.2.1, x.2.2.2.1, x.2.2.2.2.1, x.2.2.2.2.2)))

theorem n67n_bp0 (x : q2T) : Par (n67n_b0 x) := by
  unfold n67n_b0
  exact (par_bif (par_ite (c := 0 ≤ x.2.2.2.1 ∧ x.2.2.2.1 < (x.1.length : Int)) (par_bif (par_ret _) (par_ret _)) par_none) (par_ret _))

def n67n_d (a0 : (List dRange)) (a1 : dRange) (k : Int → Option Res) : Option Res :=
  loopK n67n_b0 Fuel (a0, (0 : Int), (a0.length : Int), (0 : Int), a1.1, a1.2) (Sum.elim (fun z1 =>
    k z1.2.1) (fun _ =>
    k (-1 : Int)))

def n67n_k := shut n67n_d
theorem n67n_e : n67n_k = n67n_d := shut_eq _

theorem n67n_p (a0 : (List dRange)) (a1 : dRange) : Par (n67n_k a0 a1) := by
  rw [n67n_e]
  unfold n67n_d
  exact ((par_loop n67n_bp0 Fuel (a0, (0 : Int), (a0.length : Int), (0 : Int), a1.1, a1.2)).bind2 (fun z1 => (par_ret _)) (fun z2 => (par_ret _)))

def n64n_d (a0 : (List dRange)) (a1 : dRange) (k : Bool → Option Res) : Option Res :=
  n67n_k a0 a1 (fun y1 =>
    k (decide (y1 ≥ (0 : Int))))

def n64n_k := shut n64n_d
theorem n64n_e : n64n_k = n64n_d := shut_eq _

theorem n64n_p (a0 : (List dRange)) (a1 : dRange) : Par (n64n_k a0 a1) := by
  rw [n64n_e]
  unfold n64n_d
  exact ((n67n_p a0 a1).bind fun y1 => (par_ret _))

def n06n_j5000004 (x : q24T) (k : q25T → Option Res) : Option Res :=
    n64n_k x.2.2.2.2.2.1 (x.2.2.2.2.2.2.2.2.2.1, x.2.2.2.2.2.2.2.2.2.2.1) (fun y5 =>
      bif y5 then
        k (true, x.2.1, x.2.2.1, x.2.2.2.1, x.2.2.2.2.1, x.2.2.2.2.2.1, x.2.2.2.2.2.2.1, x.2.2.2.2.2.2.2.1, x.2.2.2.2.2.2.2.2.1, x.2.2.2.2.2.2.2.2.2.1, x.2.2.2.2.2.2.2.2.2.2.1, x.2.2.2.2.2.2.2.2.2.2.2.2.2.2.2.2.2.1, x.2.2.2.2.2.2.2.2.2.2.2.2.2.2.2.2.2.2.1, x.2.2.2.2.2.2.2.2.2.2.2.2.2.2.2.2.2.2.2.1, x.2.2.2.2.2.2.2.2.2.2.2.2.2.2.2.2.2.2.2.2.1, x.2.2.2.2.2.2.2.2.2.2.2.2.2.2.2.2.2.2.2.2.2.1, x.2.2.2.2.2.2.2.2.2.2.2.2.2.2.2.2.2.2.2.2.2.2.1, x.2.2.2.2.2.2.2.2.2.2.2.2.2.2.2.2.2.1, x.2.2.2.2.2.2.2.2.2.2.2.2.2.2.2.2.2.2.1, x.2.2.2.2.2.2.2.2.2.2.2.2.2.2.2.2.2.2.2.1, x.2.2.2.2.2.2.2.2.2.2.2.2.2.2.2.2.2.2.2.2.1, x.2.2.2.2.2.2.2.2.2.2.2.2.2.2.2.2.2.2.2.2.2.1, x.2.2.2.2.2.2.2.2.2.2.2.2.2.2.2.2.2.2.2.2.2.2.1, x.2.2.2.2.2.2.2.2.2.2.2.2.2.2.2.2.2.2.2.2.2.2.2.2.2.1, x.2.2.2.2.2.2.2.2.2.2.2.2.2.2.2.2.2.2.2.2.2.2.2.2.2.2)
      else
        bif ((x.2.2.2.2.2.1.length : Int) == (8 : Int)) then
          k (false, x.2.1, x.2.2.1, x.2.2.2.1, x.2.2.2.2.1, x.2.2.2.2.2.1, x.2.2.2.2.2.2.1, x.2.2.2.2.2.2.2.1, x.2.2.2.2.2.2.2.2.1, x.2.2.2.2.2.2.2.2.2.1, x.2.2.2.2.2.2.2.2.2.2.1, x.2.2.2.2.2.2.2.2.2.2.2.2.2.2.2.2.2.1, x.2.2.2.2.2.2.2.2.2.2.2.2.2.2.2.2.2.2.1, x.2.2.2.2.2.2.2.2.2.2.2.2.2.2.2.2.2.2.2.1, x.2.2.2.2.2.2.2.2.2.2.2.2.2.2.2.2.2.2.2.2.1, x.2.2.2.2.2.2.2.2.2.2.2.2.2.2.2.2.2.2.2.2.2.1, x.2.2.2.2.2.2.2.2.2.2.2.2.2.2.2.2.2.2.2.2.2.2.1, x.2.2.2.2.2.2.2.2.2.2.2.2.2.2.2.2.2.1, x.2.2.2.2.2.2.2.2.2.2.2.2.2.2.2.2.2.2.1, x.2.2.2.2.2.2.2.2.2.2.2.2.2.2.2.2.2.2.2.1, x.2.2.2.2.2.2.2.2.2.2.2.2.2.2.2.2.2.2.2.2.1, x.2.2.2.2.2.2.2.2.2.2.2.2.2.2.2.2.2.2.2.2.2.1, x.2.2.2.2.2.2.2.2.2.2.2.2.2.2.2.2.2.2.2.2.2.2.1, x.2.2.2.2.2.2.2.2.2.2.2.2.2.2.2.2.2.2.2.2.2.2.2.2.2.1, x.2.2.2.2.2.2.2.2.2.2.2.2.2.2.2.2.2.2.2.2.2.2.2.2.2.2)
        else
          if x.2.2.2.2.2.2.2.2.2.2.2.2.2.2.2.2.2.2.2.2.2.2.2.2.2.1.length + [(x.2.2.2.2.2.2.2.2.2.1, x.2.2.2.2.2.2.2.2.2.2.1)].length ≤ VE.maxLen then
            k (true, x.2.1, x.2.2.1, x.2.2.2.1, x.2.2.2.2.1, x.2.2.2.2.2.1, x.2.2.2.2.2.2.1, x.2.2.2.2.2.2.2.1, x.2.2.2.2.2.2.2.2.1, x.2.2.2.2.2.2.2.2.2.1, x.2.2.2.2.2.2.2.2.2.2.1, x.2.2.2.2.2.2.2.2.2.2.2.2.2.2.2.2.2.1, x.2.2.2.2.2.2.2.2.2.2.2.2.2.2.2.2.2.2.1, x.2.2.2.2.2.2.2.2.2.2.2.2.2.2.2.2.2.2.2.1, x.2.2.2.2.2.2.2.2.2.2.2.2.2.2.2.2.2.2.2.2.1, x.2.2.2.2.2.2.2.2.2.2.2.2.2.2.2.2.2.2.2.2.2.1, x.2.2.2.2.2.2.2.2.2.2.2.2.2.2.2.2.2.2.2.2.2.2.1, x.2.2.2.2.2.2.2.2.2.2.2.2.2.2.2.2.2.1, x.2.2.2.2.2.2.2.2.2.2.2.2.2.2.2.2.2.2.1, x.2.2.2.2.2.2.2.2.2.2.2.2.2.2.2.2.2.2.2.1, x.2.2.2.2.2.2.2.2.2.2.2.2.2.2.2.2.2.2.2.2.1, x.2.2.2.2.2.2.2.2.2.2.2.2.2.2.2.2.2.2.2.2.2.1, x.2.2.2.2.2.2.2.2.2.2.2.2.2.2.2.2.2.2.2.2.2.2.1, (x.2.2.2.2.2.2.2.2.2.2.2.2.2.2.2.2.2.2.2.2.2.2.2.2.2.1 ++ [(x.2.2.2.2.2.2.2.2.2.1, x.2.2.2.2.2.2.2.2.2.2.1)]), x.2.2.2.2.2.2.2.2.2.2.2.2.2.2.2.2.2.2.2.2.2.2.2.2.2.2)
          else none)

theorem n06n_jp5000004 (x : q24T) : Par (n06n_j5000004 x) := by
  unfold n06n_j5000004
  exact ((n64n_p x.2.2.2.2.2.1 (x.2.2.2.2.2.2.2.2.2.1, x.2.2.2.2.2.2.2.2.2.2.1)).bind fun y5 => (par_bif (par_ret _) (par_bif (par_ret _) (par_ite (c := x.2.2.2.2.2.2.2.2.2.2.2.2.2.2.2.2.2.2.2.2.2.2.2.2.2.1.length + [(x.2.2.2.2.2.2.2.2.2.1, x.2.2.2.2.2.2.2.2.2.2.1)].length ≤ VE.maxLen) (par_ret _) par_none))))

def n06n_d (a0 : dTxn) (a1 : dRange) (k : q41T → Option Res) : Option Res :=
  n13n_k a0 (fun y1 =>
    n08n_k a0 (fun y2 =>
      bif (!y2) then
        k (y1.1, y1.2.1, y1.2.2.1, y1.2.2.2.1, y1.2.2.2.2.1, y1.2.2.2.2.2.1, false, y1.2.2.2.2.2.2.1, y1.2.2.2.2.2.2.2)
      else
        bif (a0.2.1 != (1 : Int)) then
          k (y1.1, y1.2.1, y1.2.2.1, y1.2.2.2.1, y1.2.2.2.2.1, y1.2.2.2.2.2.1, false, y1.2.2.2.2.2.2.1, y1.2.2.2.2.2.2.2)
        else
          n05n_k a1 (fun y3 =>
            bif (!y3) then
              k (y1.1, y1.2.1, y1.2.2.1, y1.2.2.2.1, y1.2.2.2.2.1, y1.2.2.2.2.2.1, false, y1.2.2.2.2.2.2.1, y1.2.2.2.2.2.2.2)
            else
              n06n_j5000004 (false, a0.1, a0.2.1, a0.2.2.1, a0.2.2.2.1, a0.2.2.2.2.1, a0.2.2.2.2.2.1, a0.2.2.2.2.2.2.1, a0.2.2.2.2.2.2.2, a1.1, a1.2, (0 : Int), (0 : Int), (0 : Int), (0 : Int), false, (⟨#[]⟩ : ByteArray), y1.1, y1.2.1, y1.2.2.1, y1.2.2.2.1, y1.2.2.2.2.1, y1.2.2.2.2.2.1, ([] : List dRange), ([] : List dWrite), y1.2.2.2.2.2.2.1, y1.2.2.2.2.2.2.2) (fun z4 =>
                k (z4.2.2.2.2.2.2.2.2.2.2.2.1, z4.2.2.2.2.2.2.2.2.2.2.2.2.1, z4.2.2.2.2.2.2.2.2.2.2.2.2.2.1, z4.2.2.2.2.2.2.2.2.2.2.2.2.2.2.1, z4.2.2.2.2.2.2.2.2.2.2.2.2.2.2.2.1, z4.2.2.2.2.2.2.2.2.2.2.2.2.2.2.2.2.1, z4.1, z4.2.2.2.2.2.2.2.2.2.2.2.2.2.2.2.2.2.2.2.2.2.2.2.1, z4.2.2.2.2.2.2.2.2.2.2.2.2.2.2.2.2.2.2.2.2.2.2.2.2)))))

def n06n_k := shut n06n_d
theorem n06n_e : n06n_k = n06n_d := shut_eq _

theorem n06n_p (a0 : dTxn) (a1 : dRange) : Par (n06n_k a0 a1) := by
  rw [n06n_e]
  unfold n06n_d
  exact ((n13n_p a0).bind fun y1 => ((n08n_p a0).bind fun y2 => (par_bif (par_ret _) (par_bif (par_ret _) ((n05n_p a1).bind fun y3 => (par_bif (par_ret _) ((n06n_jp5000004 (false, a0.1, a0.2.1, a0.2.2.1, a0.2.2.2.1, a0.2.2.2.2.1, a0.2.2.2.2.2.1, a0.2.2.2.2.2.2.1, a0.2.2.2.2.2.2.2, a1.1, a1.2, (0 : Int), (0 : Int), (0 : Int), (0 : Int), false, (⟨#[]⟩ : ByteArray), y1.1, y1.2.1, y1.2.2.1, y1.2.2.2.1, y1.2.2.2.2.1, y1.2.2.2.2.2.1, ([] : List dRange), ([] : List dWrite), y1.2.2.2.2.2.2.1, y1.2.2.2.2.2.2.2)).bind fun z4 => (par_ret _))))))))

def n18n_d (a0 : dEngine) (a1 : Int) (a2 : dRange) (a3 : Bool) (k : q39T → Option Res) : Option Res :=
  n12n_k a0 (fun y1 =>
    n02n_k a0 a1 (fun y2 =>
      bif (decide (y2 < (0 : Int))) then
        k (y1.1, y1.2.1, y2, (1 : Int), y1.2.2.1, y1.2.2.2.1, y1.2.2.2.2.1, y1.2.2.2.2.2)
      else
        bif (!a3) then
          k (y1.1, y1.2.1, y2, (2 : Int), y1.2.2.1, y1.2.2.2.1, y1.2.2.2.2.1, y1.2.2.2.2.2)
        else
          if 0 ≤ y2 ∧ y2 < (a0.2.length : Int) then
            n06n_k (rd (Ty.zero tTxn) a0.2 y2) a2 (fun y3 =>
              bif (!y3.2.2.2.2.2.2.1) then
                k (y1.1, y1.2.1, y2, (3 : Int), y1.2.2.1, y1.2.2.2.1, y1.2.2.2.2.1, y1.2.2.2.2.2)
              else
                if 0 ≤ y2 ∧ y2 < (y1.2.2.2.2.2.length : Int) then
                  k (y1.1, y1.2.1, y2, (0 : Int), y1.2.2.1, y1.2.2.2.1, y1.2.2.2.2.1, (y1.2.2.2.2.2.set y2.toNat (y3.1, (y3.2.1, (y3.2.2.1, (y3.2.2.2.1, (y3.2.2.2.2.2.2.2.1, (y3.2.2.2.2.2.2.2.2, (y3.2.2.2.2.1, y3.2.2.2.2.2.1)))))))))
                else none)
          else none))

def n18n_k := shut n18n_d
theorem n18n_e : n18n_k = n18n_d := shut_eq _

theorem n18n_p (a0 : dEngine) (a1 : Int) (a2 : dRange) (a3 : Bool) : Par (n18n_k a0 a1 a2 a3) := by
  rw [n18n_e]
  unfold n18n_d
  exact ((n12n_p a0).bind fun y1 => ((n02n_p a0 a1).bind fun y2 => (par_bif (par_ret _) (par_bif (par_ret _) (par_ite (c := 0 ≤ y2 ∧ y2 < (a0.2.length : Int)) ((n06n_p (rd (Ty.zero tTxn) a0.2 y2) a2).bind fun y3 => (par_bif (par_ret _) (par_ite (c := 0 ≤ y2 ∧ y2 < (y1.2.2.2.2.2.length : Int)) (par_ret _) par_none))) par_none)))))

def n17n_d (a0 : dWrite) (a1 : ByteArray) (k : (Bool × ByteArray) → Option Res) : Option Res :=
  k ((strEq a0.1 a1), a1)

def n17n_k := shut n17n_d
theorem n17n_e : n17n_k = n17n_d := shut_eq _

theorem n17n_p (a0 : dWrite) (a1 : ByteArray) : Par (n17n_k a0 a1) := by
  rw [n17n_e]
  unfold n17n_d
  exact (par_ret _)

def n66n_b0 (x : q18T) (k : q18T ⊕ (q18T ⊕ q18T) → Option Res) : Option Res :=
    bif (decide (x.2.2.2.1 < x.2.2.1)) then
      if 0 ≤ x.2.2.2.1 ∧ x.2.2.2.1 < (x.1.length : Int) then
        n17n_k (rd (Ty.zero tWrite) x.1 x.2.2.2.1) x.2.2.2.2 (fun y3 =>
          bif y3.1 then
            k (.inr (.inl (x.1, x.2.2.2.1, x.2.2.1, x.2.2.2.1, y3.2)))
          else
            k (.inl (x.1, x.2.1, x.2.2.1, (IntKind.wrap .i64 (x.2.2.2.1 + (1 : Int))), y3.2)))
      else none
    else
      k (.inr (.inr (x.1, x.2.1, x.2.2.1, x.2.2.2.1, x.2.2.2.2)))

theorem n66n_bp0 (x : q18T) : Par (n66n_b0 x) := by
  unfold n66n_b0
  exact (par_bif (par_ite (c := 0 ≤ x.2.2.2.1 ∧ x.2.2.2.1 < (x.1.length : Int)) ((n17n_p (rd (Ty.zero tWrite) x.1 x.2.2.2.1) x.2.2.2.2).bind fun y3 => (par_bif (par_ret _) (par_ret _))) par_none) (par_ret _))

def n66n_d (a0 : (List dWrite)) (a1 : ByteArray) (k : (Int × ByteArray) → Option Res) : Option Res :=
  loopK n66n_b0 Fuel (a0, (0 : Int), (a0.length : Int), (0 : Int), a1) (Sum.elim (fun z1 =>
    k (z1.2.1, z1.2.2.2.2)) (fun z2 =>
    k ((-1 : Int), z2.2.2.2.2)))

def n66n_k := shut n66n_d
theorem n66n_e : n66n_k = n66n_d := shut_eq _

theorem n66n_p (a0 : (List dWrite)) (a1 : ByteArray) : Par (n66n_k a0 a1) := by
  rw [n66n_e]
  unfold n66n_d
  exact ((par_loop n66n_bp0 Fuel (a0, (0 : Int), (a0.length : Int), (0 : Int), a1)).bind2 (fun z1 => (par_ret _)) (fun z2 => (par_ret _)))

def n16n_d (a0 : dTxn) (a1 : ByteArray) (k : Int → Option Res) : Option Res :=
  n66n_k a0.2.2.2.2.2.1 a1 (fun y1 =>
    k y1.1)

def n16n_k := shut n16n_d
theorem n16n_e : n16n_k = n16n_d := shut_eq _

theorem n16n_p (a0 : dTxn) (a1 : ByteArray) : Par (n16n_k a0 a1) := by
  rw [n16n_e]
  unfold n16n_d
  exact ((n66n_p a0.2.2.2.2.2.1 a1).bind fun y1 => (par_ret _))

def n15n_b0 (x : q11T) (k : q11T ⊕ q11T → Option Res) : Option Res :=
    bif (decide (x.2.2.2.2.2.2 < x.2.2.2.2.2.1)) then
      if 0 ≤ x.2.2.2.2.2.2 ∧ x.2.2.2.2.2.2 < (x.2.2.2.2.1.length : Int) then
        bif (strEq ((rd (Ty.zero tVersion) x.2.2.2.2.1 x.2.2.2.2.2.2).1) x.2.1) then
          bif (decide ((rd (Ty.zero tVersion) x.2.2.2.2.1 x.2.2.2.2.2.2).2.2.2 ≤ x.2.2.1)) then
            bif (decide (x.2.2.2.1 < (0 : Int))) then
              k (.inl (x.1, x.2.1, x.2.2.1, x.2.2.2.2.2.2, x.2.2.2.2.1, x.2.2.2.2.2.1, (IntKind.wrap .i64 (x.2.2.2.2.2.2 + (1 : Int)))))
            else
              if 0 ≤ x.2.2.2.1 ∧ x.2.2.2.1 < (x.1.length : Int) then
                bif (decide ((rd (Ty.zero tVersion) x.2.2.2.2.1 x.2.2.2.2.2.2).2.2.2 > (rd (Ty.zero tVersion) x.1 x.2.2.2.1).2.2.2)) then
                  k (.inl (x.1, x.2.1, x.2.2.1, x.2.2.2.2.2.2, x.2.2.2.2.1, x.2.2.2.2.2.1, (IntKind.wrap .i64 (x.2.2.2.2.2.2 + (1 : Int)))))
                else
                  k (.inl (x.1, x.2.1, x.2.2.1, x.2.2.2.1, x.2.2.2.2.1, x.2.2.2.2.2.1, (IntKind.wrap .i64 (x.2.2.2.2.2.2 + (1 : Int)))))
              else none
          else
            k (.inl (x.1, x.2.1, x.2.2.1, x.2.2.2.1, x.2.2.2.2.1, x.2.2.2.2.2.1, (IntKind.wrap .i64 (x.2.2.2.2.2.2 + (1 : Int)))))
        else
          k (.inl (x.1, x.2.1, x.2.2.1, x.2.2.2.1, x.2.2.2.2.1, x.2.2.2.2.2.1, (IntKind.wrap .i64 (x.2.2.2.2.2.2 + (1 : Int)))))
      else none
    else
      k (.inr (x.1, x.2.1, x.2.2.1, x.2.2.2.1, x.2.2.2.2.1, x.2.2.2.2.2.1, x.2.2.2.2.2.2))

theorem n15n_bp0 (x : q11T) : Par (n15n_b0 x) := by
  unfold n15n_b0
  exact (par_bif (par_ite (c := 0 ≤ x.2.2.2.2.2.2 ∧ x.2.2.2.2.2.2 < (x.2.2.2.2.1.length : Int)) (par_bif (par_bif (par_bif (par_ret _) (par_ite (c := 0 ≤ x.2.2.2.1 ∧ x.2.2.2.1 < (x.1.length : Int)) (par_bif (par_ret _) (par_ret _)) par_none)) (par_ret _)) (par_ret _)) par_none) (par_ret _))

def n15n_d (a0 : (List dVersion)) (a1 : ByteArray) (a2 : Int) (k : Int → Option Res) : Option Res :=
  loopK n15n_b0 Fuel (a0, a1, a2, (-1 : Int), a0, (a0.length : Int), (0 : Int)) (fun z1 =>
    k z1.2.2.2.1)

def n15n_k := shut n15n_d
theorem n15n_e : n15n_k = n15n_d := shut_eq _

theorem n15n_p (a0 : (List dVersion)) (a1 : ByteArray) (a2 : Int) : Par (n15n_k a0 a1 a2) := by
  rw [n15n_e]
  unfold n15n_d
  exact ((par_loop n15n_bp0 Fuel (a0, a1, a2, (-1 : Int), a0, (a0.length : Int), (0 : Int))).bind fun z1 => (par_ret _))

def n07n_d (a0 : (List dVersion)) (a1 : ByteArray) (a2 : Int) (k : (ByteArray × Bool) → Option Res) : Option Res :=
  n15n_k a0 a1 a2 (fun y1 =>
    bif (decide (y1 < (0 : Int))) then
      k ((⟨#[]⟩ : ByteArray), false)
    else
      if 0 ≤ y1 ∧ y1 < (a0.length : Int) then
        bif (rd (Ty.zero tVersion) a0 y1).2.2.1 then
          k ((⟨#[]⟩ : ByteArray), false)
        else
          if 0 ≤ y1 ∧ y1 < (a0.length : Int) then
            k ((rd (Ty.zero tVersion) a0 y1).2.1, true)
          else none
      else none)

def n07n_k := shut n07n_d
theorem n07n_e : n07n_k = n07n_d := shut_eq _

theorem n07n_p (a0 : (List dVersion)) (a1 : ByteArray) (a2 : Int) : Par (n07n_k a0 a1 a2) := by
  rw [n07n_e]
  unfold n07n_d
  exact ((n15n_p a0 a1 a2).bind fun y1 => (par_bif (par_ret _) (par_ite (c := 0 ≤ y1 ∧ y1 < (a0.length : Int)) (par_bif (par_ret _) (par_ite (c := 0 ≤ y1 ∧ y1 < (a0.length : Int)) (par_ret _) par_none)) par_none)))

def n04n_d (a0 : dTxn) (a1 : (List dVersion)) (a2 : ByteArray) (k : (ByteArray × Bool) → Option Res) : Option Res :=
  n16n_k a0 a2 (fun y1 =>
    bif (decide (y1 ≥ (0 : Int))) then
      if 0 ≤ y1 ∧ y1 < (a0.2.2.2.2.2.1.length : Int) then
        bif (rd (Ty.zero tWrite) a0.2.2.2.2.2.1 y1).2.2 then
          k ((⟨#[]⟩ : ByteArray), false)
        else
          if 0 ≤ y1 ∧ y1 < (a0.2.2.2.2.2.1.length : Int) then
            k ((rd (Ty.zero tWrite) a0.2.2.2.2.2.1 y1).2.1, true)
          else none
      else none
    else
      n07n_k a1 a2 a0.2.2.1 (fun y2 =>
        k (y2.1, y2.2)))

def n04n_k := shut n04n_d
theorem n04n_e : n04n_k = n04n_d := shut_eq _

theorem n04n_p (a0 : dTxn) (a1 : (List dVersion)) (a2 : ByteArray) : Par (n04n_k a0 a1 a2) := by
  rw [n04n_e]
  unfold n04n_d
  exact ((n16n_p a0 a2).bind fun y1 => (par_bif (par_ite (c := 0 ≤ y1 ∧ y1 < (a0.2.2.2.2.2.1.length : Int)) (par_bif (par_ret _) (par_ite (c := 0 ≤ y1 ∧ y1 < (a0.2.2.2.2.2.1.length : Int)) (par_ret _) par_none)) par_none) ((n07n_p a1 a2 a0.2.2.1).bind fun y2 => (par_ret _))))

def n00n_d (a0 : dEngine) (a1 : Int) (a2 : ByteArray) (k : q37T → Option Res) : Option Res :=
  n01n_k a2 (fun y1 =>
    n18n_k a0 a1 (a2, a2) y1 (fun y2 =>
      bif (y2.2.2.2.1 != (0 : Int)) then
        k (y2.1, y2.2.1, (⟨#[]⟩ : ByteArray), false, y2.2.2.2.1, y2.2.2.2.2.1, y2.2.2.2.2.2.1, y2.2.2.2.2.2.2.1, y2.2.2.2.2.2.2.2)
      else
        if 0 ≤ y2.2.2.1 ∧ y2.2.2.1 < (a0.2.length : Int) then
          n04n_k (rd (Ty.zero tTxn) a0.2 y2.2.2.1) a0.1.1 a2 (fun y3 =>
            k (y2.1, y2.2.1, y3.1, y3.2, (0 : Int), y2.2.2.2.2.1, y2.2.2.2.2.2.1, y2.2.2.2.2.2.2.1, y2.2.2.2.2.2.2.2))
        else none))

def n00n_k := shut n00n_d
theorem n00n_e : n00n_k = n00n_d := shut_eq _

theorem n00n_p (a0 : dEngine) (a1 : Int) (a2 : ByteArray) : Par (n00n_k a0 a1 a2) := by
  rw [n00n_e]
  unfold n00n_d
  exact ((n01n_p a2).bind fun y1 => ((n18n_p a0 a1 (a2, a2) y1).bind fun y2 => (par_bif (par_ret _) (par_ite (c := 0 ≤ y2.2.2.1 ∧ y2.2.2.1 < (a0.2.length : Int)) ((n04n_p (rd (Ty.zero tTxn) a0.2 y2.2.2.1) a0.1.1 a2).bind fun y3 => (par_ret _)) par_none))))

def n27n_d (a0 : dVersion) (a1 : dVersion) (k : Bool → Option Res) : Option Res :=
  bif (!(strEq a0.1 a1.1)) then
    k false
  else
    bif (!(strEq a0.2.1 a1.2.1)) then
      k false
    else
      bif (!(a0.2.2.1 == a1.2.2.1)) then
        k false
      else
        bif (a0.2.2.2 != a1.2.2.2) then
          k false
        else
          k true

def n27n_k := shut n27n_d
theorem n27n_e : n27n_k = n27n_d := shut_eq _

theorem n27n_p (a0 : dVersion) (a1 : dVersion) : Par (n27n_k a0 a1) := by
  rw [n27n_e]
  unfold n27n_d
  exact (par_bif (par_ret _) (par_bif (par_ret _) (par_bif (par_ret _) (par_bif (par_ret _) (par_ret _)))))

def n28n_b0 (x : q9T) (k : q9T ⊕ (q9T ⊕ q9T) → Option Res) : Option Res :=
    bif (decide (x.2.2.2 < (x.1.length : Int))) then
      if 0 ≤ x.2.2.2 ∧ x.2.2.2 < (x.1.length : Int) then
        if 0 ≤ x.2.2.2 ∧ x.2.2.2 < (x.2.1.length : Int) then
          n27n_k (rd (Ty.zero tVersion) x.1 x.2.2.2) (rd (Ty.zero tVersion) x.2.1 x.2.2.2) (fun y3 =>
            bif (!y3) then
              k (.inr (.inl (x.1, x.2.1, false, x.2.2.2)))
            else
              k (.inl (x.1, x.2.1, x.2.2.1, (IntKind.wrap .i64 (x.2.2.2 + (1 : Int))))))
        else none
      else none
    else
      k (.inr (.inr (x.1, x.2.1, x.2.2.1, x.2.2.2)))

theorem n28n_bp0 (x : q9T) : Par (n28n_b0 x) := by
  unfold n28n_b0
  exact (par_bif (par_ite (c := 0 ≤ x.2.2.2 ∧ x.2.2.2 < (x.1.length : Int)) (par_ite (c := 0 ≤ x.2.2.2 ∧ x.2.2.2 < (x.2.1.length : Int)) ((n27n_p (rd (Ty.zero tVersion) x.1 x.2.2.2) (rd (Ty.zero tVersion) x.2.1 x.2.2.2)).bind fun y3 => (par_bif (par_ret _) (par_ret _))) par_none) par_none) (par_ret _))

def n28n_d (a0 : (List dVersion)) (a1 : (List dVersion)) (k : Bool → Option Res) : Option Res :=
  bif ((a0.length : Int) != (a1.length : Int)) then
    k false
  else
    loopK n28n_b0 Fuel (a0, a1, false, (0 : Int)) (Sum.elim (fun z1 =>
      k z1.2.2.1) (fun _ =>
      k true))

def n28n_k := shut n28n_d
theorem n28n_e : n28n_k = n28n_d := shut_eq _

theorem n28n_p (a0 : (List dVersion)) (a1 : (List dVersion)) : Par (n28n_k a0 a1) := by
  rw [n28n_e]
  unfold n28n_d
  exact (par_bif (par_ret _) ((par_loop n28n_bp0 Fuel (a0, a1, false, (0 : Int))).bind2 (fun z1 => (par_ret _)) (fun z2 => (par_ret _))))

def n23n_d (a0 : dRange) (a1 : dRange) (k : Bool → Option Res) : Option Res :=
  bif (!(strEq a0.1 a1.1)) then
    k false
  else
    bif (!(strEq a0.2 a1.2)) then
      k false
    else
      k true

def n23n_k := shut n23n_d
theorem n23n_e : n23n_k = n23n_d := shut_eq _

theorem n23n_p (a0 : dRange) (a1 : dRange) : Par (n23n_k a0 a1) := by
  rw [n23n_e]
  unfold n23n_d
  exact (par_bif (par_ret _) (par_bif (par_ret _) (par_ret _)))

def n24n_b0 (x : q0T) (k : q0T ⊕ (q0T ⊕ q0T) → Option Res) : Option Res :=
    bif (decide (x.2.2.2 < (x.1.length : Int))) then
      if 0 ≤ x.2.2.2 ∧ x.2.2.2 < (x.1.length : Int) then
        if 0 ≤ x.2.2.2 ∧ x.2.2.2 < (x.2.1.length : Int) then
          n23n_k (rd (Ty.zero tRange) x.1 x.2.2.2) (rd (Ty.zero tRange) x.2.1 x.2.2.2) (fun y3 =>
            bif (!y3) then
              k (.inr (.inl (x.1, x.2.1, false, x.2.2.2)))
            else
              k (.inl (x.1, x.2.1, x.2.2.1, (IntKind.wrap .i64 (x.2.2.2 + (1 : Int))))))
        else none
      else none
    else
      k (.inr (.inr (x.1, x.2.1, x.2.2.1, x.2.2.2)))

theorem n24n_bp0 (x : q0T) : Par (n24n_b0 x) := by
  unfold n24n_b0
  exact (par_bif (par_ite (c := 0 ≤ x.2.2.2 ∧ x.2.2.2 < (x.1.length : Int)) (par_ite (c := 0 ≤ x.2.2.2 ∧ x.2.2.2 < (x.2.1.length : Int)) ((n23n_p (rd (Ty.zero tRange) x.1 x.2.2.2) (rd (Ty.zero tRange) x.2.1 x.2.2.2)).bind fun y3 => (par_bif (par_ret _) (par_ret _))) par_none) par_none) (par_ret _))

def n24n_d (a0 : (List dRange)) (a1 : (List dRange)) (k : Bool → Option Res) : Option Res :=
  bif ((a0.length : Int) != (a1.length : Int)) then
    k false
  else
    loopK n24n_b0 Fuel (a0, a1, false, (0 : Int)) (Sum.elim (fun z1 =>
      k z1.2.2.1) (fun _ =>
      k true))

def n24n_k := shut n24n_d
theorem n24n_e : n24n_k = n24n_d := shut_eq _

theorem n24n_p (a0 : (List dRange)) (a1 : (List dRange)) : Par (n24n_k a0 a1) := by
  rw [n24n_e]
  unfold n24n_d
  exact (par_bif (par_ret _) ((par_loop n24n_bp0 Fuel (a0, a1, false, (0 : Int))).bind2 (fun z1 => (par_ret _)) (fun z2 => (par_ret _))))

def n29n_d (a0 : dWrite) (a1 : dWrite) (k : Bool → Option Res) : Option Res :=
  bif (!(strEq a0.1 a1.1)) then
    k false
  else
    bif (!(strEq a0.2.1 a1.2.1)) then
      k false
    else
      bif (!(a0.2.2 == a1.2.2)) then
        k false
      else
        k true

def n29n_k := shut n29n_d
theorem n29n_e : n29n_k = n29n_d := shut_eq _

theorem n29n_p (a0 : dWrite) (a1 : dWrite) : Par (n29n_k a0 a1) := by
  rw [n29n_e]
  unfold n29n_d
  exact (par_bif (par_ret _) (par_bif (par_ret _) (par_bif (par_ret _) (par_ret _))))

def n30n_b0 (x : q15T) (k : q15T ⊕ (q15T ⊕ q15T) → Option Res) : Option Res :=
    bif (decide (x.2.2.2 < (x.1.length : Int))) then
      if 0 ≤ x.2.2.2 ∧ x.2.2.2 < (x.1.length : Int) then
        if 0 ≤ x.2.2.2 ∧ x.2.2.2 < (x.2.1.length : Int) then
          n29n_k (rd (Ty.zero tWrite) x.1 x.2.2.2) (rd (Ty.zero tWrite) x.2.1 x.2.2.2) (fun y3 =>
            bif (!y3) then
              k (.inr (.inl (x.1, x.2.1, false, x.2.2.2)))
            else
              k (.inl (x.1, x.2.1, x.2.2.1, (IntKind.wrap .i64 (x.2.2.2 + (1 : Int))))))
        else none
      else none
    else
      k (.inr (.inr (x.1, x.2.1, x.2.2.1, x.2.2.2)))

theorem n30n_bp0 (x : q15T) : Par (n30n_b0 x) := by
  unfold n30n_b0
  exact (par_bif (par_ite (c := 0 ≤ x.2.2.2 ∧ x.2.2.2 < (x.1.length : Int)) (par_ite (c := 0 ≤ x.2.2.2 ∧ x.2.2.2 < (x.2.1.length : Int)) ((n29n_p (rd (Ty.zero tWrite) x.1 x.2.2.2) (rd (Ty.zero tWrite) x.2.1 x.2.2.2)).bind fun y3 => (par_bif (par_ret _) (par_ret _))) par_none) par_none) (par_ret _))

def n30n_d (a0 : (List dWrite)) (a1 : (List dWrite)) (k : Bool → Option Res) : Option Res :=
  bif ((a0.length : Int) != (a1.length : Int)) then
    k false
  else
    loopK n30n_b0 Fuel (a0, a1, false, (0 : Int)) (Sum.elim (fun z1 =>
      k z1.2.2.1) (fun _ =>
      k true))

def n30n_k := shut n30n_d
theorem n30n_e : n30n_k = n30n_d := shut_eq _

theorem n30n_p (a0 : (List dWrite)) (a1 : (List dWrite)) : Par (n30n_k a0 a1) := by
  rw [n30n_e]
  unfold n30n_d
  exact (par_bif (par_ret _) ((par_loop n30n_bp0 Fuel (a0, a1, false, (0 : Int))).bind2 (fun z1 => (par_ret _)) (fun z2 => (par_ret _))))

def n25n_d (a0 : dTxn) (a1 : dTxn) (k : Bool → Option Res) : Option Res :=
  bif (a0.1 != a1.1) then
    k false
  else
    bif (a0.2.1 != a1.2.1) then
      k false
    else
      bif (a0.2.2.1 != a1.2.2.1) then
        k false
      else
        bif (a0.2.2.2.1 != a1.2.2.2.1) then
          k false
        else
          n24n_k a0.2.2.2.2.1 a1.2.2.2.2.1 (fun y1 =>
            bif (!y1) then
              k false
            else
              n30n_k a0.2.2.2.2.2.1 a1.2.2.2.2.2.1 (fun y2 =>
                bif (!y2) then
                  k false
                else
                  bif (!(a0.2.2.2.2.2.2.1 == a1.2.2.2.2.2.2.1)) then
                    k false
                  else
                    bif (!(strEq a0.2.2.2.2.2.2.2 a1.2.2.2.2.2.2.2)) then
                      k false
                    else
                      k true))

def n25n_k := shut n25n_d
theorem n25n_e : n25n_k = n25n_d := shut_eq _

theorem n25n_p (a0 : dTxn) (a1 : dTxn) : Par (n25n_k a0 a1) := by
  rw [n25n_e]
  unfold n25n_d
  exact (par_bif (par_ret _) (par_bif (par_ret _) (par_bif (par_ret _) (par_bif (par_ret _) ((n24n_p a0.2.2.2.2.1 a1.2.2.2.2.1).bind fun y1 => (par_bif (par_ret _) ((n30n_p a0.2.2.2.2.2.1 a1.2.2.2.2.2.1).bind fun y2 => (par_bif (par_ret _) (par_bif (par_ret _) (par_bif (par_ret _) (par_ret _)))))))))))

def n26n_b0 (x : q4T) (k : q4T ⊕ (q4T ⊕ q4T) → Option Res) : Option Res :=
    bif (decide (x.2.2.2 < (x.1.length : Int))) then
      if 0 ≤ x.2.2.2 ∧ x.2.2.2 < (x.1.length : Int) then
        if 0 ≤ x.2.2.2 ∧ x.2.2.2 < (x.2.1.length : Int) then
          n25n_k (rd (Ty.zero tTxn) x.1 x.2.2.2) (rd (Ty.zero tTxn) x.2.1 x.2.2.2) (fun y3 =>
            bif (!y3) then
              k (.inr (.inl (x.1, x.2.1, false, x.2.2.2)))
            else
              k (.inl (x.1, x.2.1, x.2.2.1, (IntKind.wrap .i64 (x.2.2.2 + (1 : Int))))))
        else none
      else none
    else
      k (.inr (.inr (x.1, x.2.1, x.2.2.1, x.2.2.2)))

theorem n26n_bp0 (x : q4T) : Par (n26n_b0 x) := by
  unfold n26n_b0
  exact (par_bif (par_ite (c := 0 ≤ x.2.2.2 ∧ x.2.2.2 < (x.1.length : Int)) (par_ite (c := 0 ≤ x.2.2.2 ∧ x.2.2.2 < (x.2.1.length : Int)) ((n25n_p (rd (Ty.zero tTxn) x.1 x.2.2.2) (rd (Ty.zero tTxn) x.2.1 x.2.2.2)).bind fun y3 => (par_bif (par_ret _) (par_ret _))) par_none) par_none) (par_ret _))

def n26n_d (a0 : (List dTxn)) (a1 : (List dTxn)) (k : Bool → Option Res) : Option Res :=
  bif ((a0.length : Int) != (a1.length : Int)) then
    k false
  else
    loopK n26n_b0 Fuel (a0, a1, false, (0 : Int)) (Sum.elim (fun z1 =>
      k z1.2.2.1) (fun _ =>
      k true))

def n26n_k := shut n26n_d
theorem n26n_e : n26n_k = n26n_d := shut_eq _

theorem n26n_p (a0 : (List dTxn)) (a1 : (List dTxn)) : Par (n26n_k a0 a1) := by
  rw [n26n_e]
  unfold n26n_d
  exact (par_bif (par_ret _) ((par_loop n26n_bp0 Fuel (a0, a1, false, (0 : Int))).bind2 (fun z1 => (par_ret _)) (fun z2 => (par_ret _))))

def n21n_d (a0 : dBase) (a1 : dBase) (k : Bool → Option Res) : Option Res :=
  n28n_k a0.1 a1.1 (fun y1 =>
    bif (!y1) then
      k false
    else
      n26n_k a0.2.1 a1.2.1 (fun y2 =>
        bif (!y2) then
          k false
        else
          n26n_k a0.2.2.1 a1.2.2.1 (fun y3 =>
            bif (!y3) then
              k false
            else
              bif (a0.2.2.2.1 != a1.2.2.2.1) then
                k false
              else
                bif (a0.2.2.2.2 != a1.2.2.2.2) then
                  k false
                else
                  k true)))

def n21n_k := shut n21n_d
theorem n21n_e : n21n_k = n21n_d := shut_eq _

theorem n21n_p (a0 : dBase) (a1 : dBase) : Par (n21n_k a0 a1) := by
  rw [n21n_e]
  unfold n21n_d
  exact ((n28n_p a0.1 a1.1).bind fun y1 => (par_bif (par_ret _) ((n26n_p a0.2.1 a1.2.1).bind fun y2 => (par_bif (par_ret _) ((n26n_p a0.2.2.1 a1.2.2.1).bind fun y3 => (par_bif (par_ret _) (par_bif (par_ret _) (par_bif (par_ret _) (par_ret _)))))))))

def n22n_d (a0 : dEngine) (a1 : dEngine) (k : Bool → Option Res) : Option Res :=
  n21n_k a0.1 a1.1 (fun y1 =>
    bif (!y1) then
      k false
    else
      n26n_k a0.2 a1.2 (fun y2 =>
        bif (!y2) then
          k false
        else
          k true))

def n22n_k := shut n22n_d
theorem n22n_e : n22n_k = n22n_d := shut_eq _

theorem n22n_p (a0 : dEngine) (a1 : dEngine) : Par (n22n_k a0 a1) := by
  rw [n22n_e]
  unfold n22n_d
  exact ((n21n_p a0.1 a1.1).bind fun y1 => (par_bif (par_ret _) ((n26n_p a0.2 a1.2).bind fun y2 => (par_bif (par_ret _) (par_ret _)))))

def n40n_b0 (x : (Int × ByteArray)) (k : (Int × ByteArray) ⊕ (Int × ByteArray) → Option Res) : Option Res :=
    bif (decide (x.1 > (0 : Int))) then
      if (bytesOf [(IntKind.wrap .u8 (IntKind.wrap .i64 ((48 : Int) + (x.1.tmod (10 : Int)))))]).size + x.2.size ≤ 1099511627776 then
        k (.inl ((IntKind.wrap .i64 (x.1.tdiv (10 : Int))), ((bytesOf [(IntKind.wrap .u8 (IntKind.wrap .i64 ((48 : Int) + (x.1.tmod (10 : Int)))))]) ++ x.2)))
      else none
    else
      k (.inr (x.1, x.2))

theorem n40n_bp0 (x : (Int × ByteArray)) : Par (n40n_b0 x) := by
  unfold n40n_b0
  exact (par_bif (par_ite (c := (bytesOf [(IntKind.wrap .u8 (IntKind.wrap .i64 ((48 : Int) + (x.1.tmod (10 : Int)))))]).size + x.2.size ≤ 1099511627776) (par_ret _) par_none) (par_ret _))

def n40n_d (a0 : Int) (k : ByteArray → Option Res) : Option Res :=
  bif (decide (a0 ≤ (0 : Int))) then
    k (⟨#[109, 48]⟩ : ByteArray)
  else
    loopK n40n_b0 Fuel (a0, (⟨#[]⟩ : ByteArray)) (fun z1 =>
      if (⟨#[109]⟩ : ByteArray).size + z1.2.size ≤ 1099511627776 then
        k ((⟨#[109]⟩ : ByteArray) ++ z1.2)
      else none)

def n40n_k := shut n40n_d
theorem n40n_e : n40n_k = n40n_d := shut_eq _

theorem n40n_p (a0 : Int) : Par (n40n_k a0) := by
  rw [n40n_e]
  unfold n40n_d
  exact (par_bif (par_ret _) ((par_loop n40n_bp0 Fuel (a0, (⟨#[]⟩ : ByteArray))).bind fun z1 => (par_ite (c := (⟨#[109]⟩ : ByteArray).size + z1.2.size ≤ 1099511627776) (par_ret _) par_none)))

def n42n_b0 (x : (Int × Int × (List dVersion))) (k : (Int × Int × (List dVersion)) ⊕ (Int × Int × (List dVersion)) → Option Res) : Option Res :=
    bif (decide (x.2.1 < (x.2.2.length : Int))) then
      n40n_k x.1 (fun y2 =>
        if 0 ≤ x.2.1 ∧ x.2.1 < (x.2.2.length : Int) then
          n40n_k (IntKind.wrap .i64 (x.1 + (1 : Int))) (fun y3 =>
            if 0 ≤ x.2.1 ∧ x.2.1 < ((x.2.2.set x.2.1.toNat (y2, (x.2.2.getD x.2.1.toNat (Ty.zero tVersion)).2)).length : Int) then
              if 0 ≤ x.2.1 ∧ x.2.1 < (((x.2.2.set x.2.1.toNat (y2, (x.2.2.getD x.2.1.toNat (Ty.zero tVersion)).2)).set x.2.1.toNat (((x.2.2.set x.2.1.toNat (y2, (x.2.2.getD x.2.1.toNat (Ty.zero tVersion)).2)).getD x.2.1.toNat (Ty.zero tVersion)).1, (y3, ((x.2.2.set x.2.1.toNat (y2, (x.2.2.getD x.2.1.toNat (Ty.zero tVersion)).2)).getD x.2.1.toNat (Ty.zero tVersion)).2.2))).length : Int) then
                if 0 ≤ x.2.1 ∧ x.2.1 < ((((x.2.2.set x.2.1.toNat (y2, (x.2.2.getD x.2.1.toNat (Ty.zero tVersion)).2)).set x.2.1.toNat (((x.2.2.set x.2.1.toNat (y2, (x.2.2.getD x.2.1.toNat (Ty.zero tVersion)).2)).getD x.2.1.toNat (Ty.zero tVersion)).1, (y3, ((x.2.2.set x.2.1.toNat (y2, (x.2.2.getD x.2.1.toNat (Ty.zero tVersion)).2)).getD x.2.1.toNat (Ty.zero tVersion)).2.2))).set x.2.1.toNat ((((x.2.2.set x.2.1.toNat (y2, (x.2.2.getD x.2.1.toNat (Ty.zero tVersion)).2)).set x.2.1.toNat (((x.2.2.set x.2.1.toNat (y2, (x.2.2.getD x.2.1.toNat (Ty.zero tVersion)).2)).getD x.2.1.toNat (Ty.zero tVersion)).1, (y3, ((x.2.2.set x.2.1.toNat (y2, (x.2.2.getD x.2.1.toNat (Ty.zero tVersion)).2)).getD x.2.1.toNat (Ty.zero tVersion)).2.2))).getD x.2.1.toNat (Ty.zero tVersion)).1, ((((x.2.2.set x.2.1.toNat (y2, (x.2.2.getD x.2.1.toNat (Ty.zero tVersion)).2)).set x.2.1.toNat (((x.2.2.set x.2.1.toNat (y2, (x.2.2.getD x.2.1.toNat (Ty.zero tVersion)).2)).getD x.2.1.toNat (Ty.zero tVersion)).1, (y3, ((x.2.2.set x.2.1.toNat (y2, (x.2.2.getD x.2.1.toNat (Ty.zero tVersion)).2)).getD x.2.1.toNat (Ty.zero tVersion)).2.2))).getD x.2.1.toNat (Ty.zero tVersion)).2.1, ((((IntKind.wrap .i64 ((IntKind.wrap .i64 (x.1 + (1 : Int))) + (1 : Int))).tmod (3 : Int)) == (0 : Int)), (((x.2.2.set x.2.1.toNat (y2, (x.2.2.getD x.2.1.toNat (Ty.zero tVersion)).2)).set x.2.1.toNat (((x.2.2.set x.2.1.toNat (y2, (x.2.2.getD x.2.1.toNat (Ty.zero tVersion)).2)).getD x.2.1.toNat (Ty.zero tVersion)).1, (y3, ((x.2.2.set x.2.1.toNat (y2, (x.2.2.getD x.2.1.toNat (Ty.zero tVersion)).2)).getD x.2.1.toNat (Ty.zero tVersion)).2.2))).getD x.2.1.toNat (Ty.zero tVersion)).2.2.2)))).length : Int) then
                  k (.inl ((IntKind.wrap .i64 ((IntKind.wrap .i64 ((IntKind.wrap .i64 ((IntKind.wrap .i64 (x.1 + (1 : Int))) + (1 : Int))) + (1 : Int))) + (1 : Int))), (IntKind.wrap .i64 (x.2.1 + (1 : Int))), ((((x.2.2.set x.2.1.toNat (y2, (x.2.2.getD x.2.1.toNat (Ty.zero tVersion)).2)).set x.2.1.toNat (((x.2.2.set x.2.1.toNat (y2, (x.2.2.getD x.2.1.toNat (Ty.zero tVersion)).2)).getD x.2.1.toNat (Ty.zero tVersion)).1, (y3, ((x.2.2.set x.2.1.toNat (y2, (x.2.2.getD x.2.1.toNat (Ty.zero tVersion)).2)).getD x.2.1.toNat (Ty.zero tVersion)).2.2))).set x.2.1.toNat ((((x.2.2.set x.2.1.toNat (y2, (x.2.2.getD x.2.1.toNat (Ty.zero tVersion)).2)).set x.2.1.toNat (((x.2.2.set x.2.1.toNat (y2, (x.2.2.getD x.2.1.toNat (Ty.zero tVersion)).2)).getD x.2.1.toNat (Ty.zero tVersion)).1, (y3, ((x.2.2.set x.2.1.toNat (y2, (x.2.2.getD x.2.1.toNat (Ty.zero tVersion)).2)).getD x.2.1.toNat (Ty.zero tVersion)).2.2))).getD x.2.1.toNat (Ty.zero tVersion)).1, ((((x.2.2.set x.2.1.toNat (y2, (x.2.2.getD x.2.1.toNat (Ty.zero tVersion)).2)).set x.2.1.toNat (((x.2.2.set x.2.1.toNat (y2, (x.2.2.getD x.2.1.toNat (Ty.zero tVersion)).2)).getD x.2.1.toNat (Ty.zero tVersion)).1, (y3, ((x.2.2.set x.2.1.toNat (y2, (x.2.2.getD x.2.1.toNat (Ty.zero tVersion)).2)).getD x.2.1.toNat (Ty.zero tVersion)).2.2))).getD x.2.1.toNat (Ty.zero tVersion)).2.1, ((((IntKind.wrap .i64 ((IntKind.wrap .i64 (x.1 + (1 : Int))) + (1 : Int))).tmod (3 : Int)) == (0 : Int)), (((x.2.2.set x.2.1.toNat (y2, (x.2.2.getD x.2.1.toNat (Ty.zero tVersion)).2)).set x.2.1.toNat (((x.2.2.set x.2.1.toNat (y2, (x.2.2.getD x.2.1.toNat (Ty.zero tVersion)).2)).getD x.2.1.toNat (Ty.zero tVersion)).1, (y3, ((x.2.2.set x.2.1.toNat (y2, (x.2.2.getD x.2.1.toNat (Ty.zero tVersion)).2)).getD x.2.1.toNat (Ty.zero tVersion)).2.2))).getD x.2.1.toNat (Ty.zero tVersion)).2.2.2)))).set x.2.1.toNat (((((x.2.2.set x.2.1.toNat (y2, (x.2.2.getD x.2.1.toNat (Ty.zero tVersion)).2)).set x.2.1.toNat (((x.2.2.set x.2.1.toNat (y2, (x.2.2.getD x.2.1.toNat (Ty.zero tVersion)).2)).getD x.2.1.toNat (Ty.zero tVersion)).1, (y3, ((x.2.2.set x.2.1.toNat (y2, (x.2.2.getD x.2.1.toNat (Ty.zero tVersion)).2)).getD x.2.1.toNat (Ty.zero tVersion)).2.2))).set x.2.1.toNat ((((x.2.2.set x.2.1.toNat (y2, (x.2.2.getD x.2.1.toNat (Ty.zero tVersion)).2)).set x.2.1.toNat (((x.2.2.set x.2.1.toNat (y2, (x.2.2.getD x.2.1.toNat (Ty.zero tVersion)).2)).getD x.2.1.toNat (Ty.zero tVersion)).1, (y3, ((x.2.2.set x.2.1.toNat (y2, (x.2.2.getD x.2.1.toNat (Ty.zero tVersion)).2)).getD x.2.1.toNat (Ty.zero tVersion)).2.2))).getD x.2.1.toNat (Ty.zero tVersion)).1, ((((x.2.2.set x.2.1.toNat (y2, (x.2.2.getD x.2.1.toNat (Ty.zero tVersion)).2)).set x.2.1.toNat (((x.2.2.set x.2.1.toNat (y2, (x.2.2.getD x.2.1.toNat (Ty.zero tVersion)).2)).getD x.2.1.toNat (Ty.zero tVersion)).1, (y3, ((x.2.2.set x.2.1.toNat (y2, (x.2.2.getD x.2.1.toNat (Ty.zero tVersion)).2)).getD x.2.1.toNat (Ty.zero tVersion)).2.2))).getD x.2.1.toNat (Ty.zero tVersion)).2.1, ((((IntKind.wrap .i64 ((IntKind.wrap .i64 (x.1 + (1 : Int))) + (1 : Int))).tmod (3 : Int)) == (0 : Int)), (((x.2.2.set x.2.1.toNat (y2, (x.2.2.getD x.2.1.toNat (Ty.zero tVersion)).2)).set x.2.1.toNat (((x.2.2.set x.2.1.toNat (y2, (x.2.2.getD x.2.1.toNat (Ty.zero tVersion)).2)).getD x.2.1.toNat (Ty.zero tVersion)).1, (y3, ((x.2.2.set x.2.1.toNat (y2, (x.2.2.getD x.2.1.toNat (Ty.zero tVersion)).2)).getD x.2.1.toNat (Ty.zero tVersion)).2.2))).getD x.2.1.toNat (Ty.zero tVersion)).2.2.2)))).getD x.2.1.toNat (Ty.zero tVersion)).1, (((((x.2.2.set x.2.1.toNat (y2, (x.2.2.getD x.2.1.toNat (Ty.zero tVersion)).2)).set x.2.1.toNat (((x.2.2.set x.2.1.toNat (y2, (x.2.2.getD x.2.1.toNat (Ty.zero tVersion)).2)).getD x.2.1.toNat (Ty.zero tVersion)).1, (y3, ((x.2.2.set x.2.1.toNat (y2, (x.2.2.getD x.2.1.toNat (Ty.zero tVersion)).2)).getD x.2.1.toNat (Ty.zero tVersion)).2.2))).set x.2.1.toNat ((((x.2.2.set x.2.1.toNat (y2, (x.2.2.getD x.2.1.toNat (Ty.zero tVersion)).2)).set x.2.1.toNat (((x.2.2.set x.2.1.toNat (y2, (x.2.2.getD x.2.1.toNat (Ty.zero tVersion)).2)).getD x.2.1.toNat (Ty.zero tVersion)).1, (y3, ((x.2.2.set x.2.1.toNat (y2, (x.2.2.getD x.2.1.toNat (Ty.zero tVersion)).2)).getD x.2.1.toNat (Ty.zero tVersion)).2.2))).getD x.2.1.toNat (Ty.zero tVersion)).1, ((((x.2.2.set x.2.1.toNat (y2, (x.2.2.getD x.2.1.toNat (Ty.zero tVersion)).2)).set x.2.1.toNat (((x.2.2.set x.2.1.toNat (y2, (x.2.2.getD x.2.1.toNat (Ty.zero tVersion)).2)).getD x.2.1.toNat (Ty.zero tVersion)).1, (y3, ((x.2.2.set x.2.1.toNat (y2, (x.2.2.getD x.2.1.toNat (Ty.zero tVersion)).2)).getD x.2.1.toNat (Ty.zero tVersion)).2.2))).getD x.2.1.toNat (Ty.zero tVersion)).2.1, ((((IntKind.wrap .i64 ((IntKind.wrap .i64 (x.1 + (1 : Int))) + (1 : Int))).tmod (3 : Int)) == (0 : Int)), (((x.2.2.set x.2.1.toNat (y2, (x.2.2.getD x.2.1.toNat (Ty.zero tVersion)).2)).set x.2.1.toNat (((x.2.2.set x.2.1.toNat (y2, (x.2.2.getD x.2.1.toNat (Ty.zero tVersion)).2)).getD x.2.1.toNat (Ty.zero tVersion)).1, (y3, ((x.2.2.set x.2.1.toNat (y2, (x.2.2.getD x.2.1.toNat (Ty.zero tVersion)).2)).getD x.2.1.toNat (Ty.zero tVersion)).2.2))).getD x.2.1.toNat (Ty.zero tVersion)).2.2.2)))).getD x.2.1.toNat (Ty.zero tVersion)).2.1, (((((x.2.2.set x.2.1.toNat (y2, (x.2.2.getD x.2.1.toNat (Ty.zero tVersion)).2)).set x.2.1.toNat (((x.2.2.set x.2.1.toNat (y2, (x.2.2.getD x.2.1.toNat (Ty.zero tVersion)).2)).getD x.2.1.toNat (Ty.zero tVersion)).1, (y3, ((x.2.2.set x.2.1.toNat (y2, (x.2.2.getD x.2.1.toNat (Ty.zero tVersion)).2)).getD x.2.1.toNat (Ty.zero tVersion)).2.2))).set x.2.1.toNat ((((x.2.2.set x.2.1.toNat (y2, (x.2.2.getD x.2.1.toNat (Ty.zero tVersion)).2)).set x.2.1.toNat (((x.2.2.set x.2.1.toNat (y2, (x.2.2.getD x.2.1.toNat (Ty.zero tVersion)).2)).getD x.2.1.toNat (Ty.zero tVersion)).1, (y3, ((x.2.2.set x.2.1.toNat (y2, (x.2.2.getD x.2.1.toNat (Ty.zero tVersion)).2)).getD x.2.1.toNat (Ty.zero tVersion)).2.2))).getD x.2.1.toNat (Ty.zero tVersion)).1, ((((x.2.2.set x.2.1.toNat (y2, (x.2.2.getD x.2.1.toNat (Ty.zero tVersion)).2)).set x.2.1.toNat (((x.2.2.set x.2.1.toNat (y2, (x.2.2.getD x.2.1.toNat (Ty.zero tVersion)).2)).getD x.2.1.toNat (Ty.zero tVersion)).1, (y3, ((x.2.2.set x.2.1.toNat (y2, (x.2.2.getD x.2.1.toNat (Ty.zero tVersion)).2)).getD x.2.1.toNat (Ty.zero tVersion)).2.2))).getD x.2.1.toNat (Ty.zero tVersion)).2.1, ((((IntKind.wrap .i64 ((IntKind.wrap .i64 (x.1 + (1 : Int))) + (1 : Int))).tmod (3 : Int)) == (0 : Int)), (((x.2.2.set x.2.1.toNat (y2, (x.2.2.getD x.2.1.toNat (Ty.zero tVersion)).2)).set x.2.1.toNat (((x.2.2.set x.2.1.toNat (y2, (x.2.2.getD x.2.1.toNat (Ty.zero tVersion)).2)).getD x.2.1.toNat (Ty.zero tVersion)).1, (y3, ((x.2.2.set x.2.1.toNat (y2, (x.2.2.getD x.2.1.toNat (Ty.zero tVersion)).2)).getD x.2.1.toNat (Ty.zero tVersion)).2.2))).getD x.2.1.toNat (Ty.zero tVersion)).2.2.2)))).getD x.2.1.toNat (Ty.zero tVersion)).2.2.1, (IntKind.wrap .i64 ((IntKind.wrap .i64 ((IntKind.wrap .i64 (x.1 + (1 : Int))) + (1 : Int))) + (1 : Int)))))))))
                else none
              else none
            else none)
        else none)
    else
      k (.inr (x.1, x.2.1, x.2.2))

theorem n42n_bp0 (x : (Int × Int × (List dVersion))) : Par (n42n_b0 x) := by
  unfold n42n_b0
  exact (par_bif ((n40n_p x.1).bind fun y2 => (par_ite (c := 0 ≤ x.2.1 ∧ x.2.1 < (x.2.2.length : Int)) ((n40n_p (IntKind.wrap .i64 (x.1 + (1 : Int)))).bind fun y3 => (par_ite (c := 0 ≤ x.2.1 ∧ x.2.1 < ((x.2.2.set x.2.1.toNat (y2, (x.2.2.getD x.2.1.toNat (Ty.zero tVersion)).2)).length : Int)) (par_ite (c := 0 ≤ x.2.1 ∧ x.2.1 < (((x.2.2.set x.2.1.toNat (y2, (x.2.2.getD x.2.1.toNat (Ty.zero tVersion)).2)).set x.2.1.toNat (((x.2.2.set x.2.1.toNat (y2, (x.2.2.getD x.2.1.toNat (Ty.zero tVersion)).2)).getD x.2.1.toNat (Ty.zero tVersion)).1, (y3, ((x.2.2.set x.2.1.toNat (y2, (x.2.2.getD x.2.1.toNat (Ty.zero tVersion)).2)).getD x.2.1.toNat (Ty.zero tVersion)).2.2))).length : Int)) (par_ite (c := 0 ≤ x.2.1 ∧ x.2.1 < ((((x.2.2.set x.2.1.toNat (y2, (x.2.2.getD x.2.1.toNat (Ty.zero tVersion)).2)).set x.2.1.toNat (((x.2.2.set x.2.1.toNat (y2, (x.2.2.getD x.2.1.toNat (Ty.zero tVersion)).2)).getD x.2.1.toNat (Ty.zero tVersion)).1, (y3, ((x.2.2.set x.2.1.toNat (y2, (x.2.2.getD x.2.1.toNat (Ty.zero tVersion)).2)).getD x.2.1.toNat (Ty.zero tVersion)).2.2))).set x.2.1.toNat ((((x.2.2.set x.2.1.toNat (y2, (x.2.2.getD x.2.1.toNat (Ty.zero tVersion)).2)).set x.2.1.toNat (((x.2.2.set x.2.1.toNat (y2, (x.2.2.getD x.2.1.toNat (Ty.zero tVersion)).2)).getD x.2.1.toNat (Ty.zero tVersion)).1, (y3, ((x.2.2.set x.2.1.toNat (y2, (x.2.2.getD x.2.1.toNat (Ty.zero tVersion)).2)).getD x.2.1.toNat (Ty.zero tVersion)).2.2))).getD x.2.1.toNat (Ty.zero tVersion)).1, ((((x.2.2.set x.2.1.toNat (y2, (x.2.2.getD x.2.1.toNat (Ty.zero tVersion)).2)).set x.2.1.toNat (((x.2.2.set x.2.1.toNat (y2, (x.2.2.getD x.2.1.toNat (Ty.zero tVersion)).2)).getD x.2.1.toNat (Ty.zero tVersion)).1, (y3, ((x.2.2.set x.2.1.toNat (y2, (x.2.2.getD x.2.1.toNat (Ty.zero tVersion)).2)).getD x.2.1.toNat (Ty.zero tVersion)).2.2))).getD x.2.1.toNat (Ty.zero tVersion)).2.1, ((((IntKind.wrap .i64 ((IntKind.wrap .i64 (x.1 + (1 : Int))) + (1 : Int))).tmod (3 : Int)) == (0 : Int)), (((x.2.2.set x.2.1.toNat (y2, (x.2.2.getD x.2.1.toNat (Ty.zero tVersion)).2)).set x.2.1.toNat (((x.2.2.set x.2.1.toNat (y2, (x.2.2.getD x.2.1.toNat (Ty.zero tVersion)).2)).getD x.2.1.toNat (Ty.zero tVersion)).1, (y3, ((x.2.2.set x.2.1.toNat (y2, (x.2.2.getD x.2.1.toNat (Ty.zero tVersion)).2)).getD x.2.1.toNat (Ty.zero tVersion)).2.2))).getD x.2.1.toNat (Ty.zero tVersion)).2.2.2)))).length : Int)) (par_ret _) par_none) par_none) par_none)) par_none)) (par_ret _))

def n42n_d (a0 : Int) (a1 : (List dVersion)) (k : (Int × (List dVersion)) → Option Res) : Option Res :=
  loopK n42n_b0 Fuel (a0, (0 : Int), a1) (fun z1 =>
    k (z1.1, z1.2.2))

def n42n_k := shut n42n_d
theorem n42n_e : n42n_k = n42n_d := shut_eq _

theorem n42n_p (a0 : Int) (a1 : (List dVersion)) : Par (n42n_k a0 a1) := by
  rw [n42n_e]
  unfold n42n_d
  exact ((par_loop n42n_bp0 Fuel (a0, (0 : Int), a1)).bind fun z1 => (par_ret _))

def n39n_b0 (x : (Int × Int × (List dRange))) (k : (Int × Int × (List dRange)) ⊕ (Int × Int × (List dRange)) → Option Res) : Option Res :=
    bif (decide (x.2.1 < (x.2.2.length : Int))) then
      n40n_k x.1 (fun y2 =>
        if 0 ≤ x.2.1 ∧ x.2.1 < (x.2.2.length : Int) then
          n40n_k (IntKind.wrap .i64 (x.1 + (1 : Int))) (fun y3 =>
            if 0 ≤ x.2.1 ∧ x.2.1 < ((x.2.2.set x.2.1.toNat (y2, (x.2.2.getD x.2.1.toNat (Ty.zero tRange)).2)).length : Int) then
              k (.inl ((IntKind.wrap .i64 ((IntKind.wrap .i64 (x.1 + (1 : Int))) + (1 : Int))), (IntKind.wrap .i64 (x.2.1 + (1 : Int))), ((x.2.2.set x.2.1.toNat (y2, (x.2.2.getD x.2.1.toNat (Ty.zero tRange)).2)).set x.2.1.toNat (((x.2.2.set x.2.1.toNat (y2, (x.2.2.getD x.2.1.toNat (Ty.zero tRange)).2)).getD x.2.1.toNat (Ty.zero tRange)).1, y3))))
            else none)
        else none)
    else
      k (.inr (x.1, x.2.1, x.2.2))

theorem n39n_bp0 (x : (Int × Int × (List dRange))) : Par (n39n_b0 x) := by
  unfold n39n_b0
  exact (par_bif ((n40n_p x.1).bind fun y2 => (par_ite (c := 0 ≤ x.2.1 ∧ x.2.1 < (x.2.2.length : Int)) ((n40n_p (IntKind.wrap .i64 (x.1 + (1 : Int)))).bind fun y3 => (par_ite (c := 0 ≤ x.2.1 ∧ x.2.1 < ((x.2.2.set x.2.1.toNat (y2, (x.2.2.getD x.2.1.toNat (Ty.zero tRange)).2)).length : Int)) (par_ret _) par_none)) par_none)) (par_ret _))

def n39n_d (a0 : Int) (a1 : (List dRange)) (k : (Int × (List dRange)) → Option Res) : Option Res :=
  loopK n39n_b0 Fuel (a0, (0 : Int), a1) (fun z1 =>
    k (z1.1, z1.2.2))

def n39n_k := shut n39n_d
theorem n39n_e : n39n_k = n39n_d := shut_eq _

theorem n39n_p (a0 : Int) (a1 : (List dRange)) : Par (n39n_k a0 a1) := by
  rw [n39n_e]
  unfold n39n_d
  exact ((par_loop n39n_bp0 Fuel (a0, (0 : Int), a1)).bind fun z1 => (par_ret _))

def n43n_b0 (x : (Int × Int × (List dWrite))) (k : (Int × Int × (List dWrite)) ⊕ (Int × Int × (List dWrite)) → Option Res) : Option Res :=
    bif (decide (x.2.1 < (x.2.2.length : Int))) then
      n40n_k x.1 (fun y2 =>
        if 0 ≤ x.2.1 ∧ x.2.1 < (x.2.2.length : Int) then
          n40n_k (IntKind.wrap .i64 (x.1 + (1 : Int))) (fun y3 =>
            if 0 ≤ x.2.1 ∧ x.2.1 < ((x.2.2.set x.2.1.toNat (y2, (x.2.2.getD x.2.1.toNat (Ty.zero tWrite)).2)).length : Int) then
              if 0 ≤ x.2.1 ∧ x.2.1 < (((x.2.2.set x.2.1.toNat (y2, (x.2.2.getD x.2.1.toNat (Ty.zero tWrite)).2)).set x.2.1.toNat (((x.2.2.set x.2.1.toNat (y2, (x.2.2.getD x.2.1.toNat (Ty.zero tWrite)).2)).getD x.2.1.toNat (Ty.zero tWrite)).1, (y3, ((x.2.2.set x.2.1.toNat (y2, (x.2.2.getD x.2.1.toNat (Ty.zero tWrite)).2)).getD x.2.1.toNat (Ty.zero tWrite)).2.2))).length : Int) then
                k (.inl ((IntKind.wrap .i64 ((IntKind.wrap .i64 ((IntKind.wrap .i64 (x.1 + (1 : Int))) + (1 : Int))) + (1 : Int))), (IntKind.wrap .i64 (x.2.1 + (1 : Int))), (((x.2.2.set x.2.1.toNat (y2, (x.2.2.getD x.2.1.toNat (Ty.zero tWrite)).2)).set x.2.1.toNat (((x.2.2.set x.2.1.toNat (y2, (x.2.2.getD x.2.1.toNat (Ty.zero tWrite)).2)).getD x.2.1.toNat (Ty.zero tWrite)).1, (y3, ((x.2.2.set x.2.1.toNat (y2, (x.2.2.getD x.2.1.toNat (Ty.zero tWrite)).2)).getD x.2.1.toNat (Ty.zero tWrite)).2.2))).set x.2.1.toNat ((((x.2.2.set x.2.1.toNat (y2, (x.2.2.getD x.2.1.toNat (Ty.zero tWrite)).2)).set x.2.1.toNat (((x.2.2.set x.2.1.toNat (y2, (x.2.2.getD x.2.1.toNat (Ty.zero tWrite)).2)).getD x.2.1.toNat (Ty.zero tWrite)).1, (y3, ((x.2.2.set x.2.1.toNat (y2, (x.2.2.getD x.2.1.toNat (Ty.zero tWrite)).2)).getD x.2.1.toNat (Ty.zero tWrite)).2.2))).getD x.2.1.toNat (Ty.zero tWrite)).1, ((((x.2.2.set x.2.1.toNat (y2, (x.2.2.getD x.2.1.toNat (Ty.zero tWrite)).2)).set x.2.1.toNat (((x.2.2.set x.2.1.toNat (y2, (x.2.2.getD x.2.1.toNat (Ty.zero tWrite)).2)).getD x.2.1.toNat (Ty.zero tWrite)).1, (y3, ((x.2.2.set x.2.1.toNat (y2, (x.2.2.getD x.2.1.toNat (Ty.zero tWrite)).2)).getD x.2.1.toNat (Ty.zero tWrite)).2.2))).getD x.2.1.toNat (Ty.zero tWrite)).2.1, (((IntKind.wrap .i64 ((IntKind.wrap .i64 (x.1 + (1 : Int))) + (1 : Int))).tmod (3 : Int)) == (0 : Int)))))))
              else none
            else none)
        else none)
    else
      k (.inr (x.1, x.2.1, x.2.2))

theorem n43n_bp0 (x : (Int × Int × (List dWrite))) : Par (n43n_b0 x) := by
  unfold n43n_b0
  exact (par_bif ((n40n_p x.1).bind fun y2 => (par_ite (c := 0 ≤ x.2.1 ∧ x.2.1 < (x.2.2.length : Int)) ((n40n_p (IntKind.wrap .i64 (x.1 + (1 : Int)))).bind fun y3 => (par_ite (c := 0 ≤ x.2.1 ∧ x.2.1 < ((x.2.2.set x.2.1.toNat (y2, (x.2.2.getD x.2.1.toNat (Ty.zero tWrite)).2)).length : Int)) (par_ite (c := 0 ≤ x.2.1 ∧ x.2.1 < (((x.2.2.set x.2.1.toNat (y2, (x.2.2.getD x.2.1.toNat (Ty.zero tWrite)).2)).set x.2.1.toNat (((x.2.2.set x.2.1.toNat (y2, (x.2.2.getD x.2.1.toNat (Ty.zero tWrite)).2)).getD x.2.1.toNat (Ty.zero tWrite)).1, (y3, ((x.2.2.set x.2.1.toNat (y2, (x.2.2.getD x.2.1.toNat (Ty.zero tWrite)).2)).getD x.2.1.toNat (Ty.zero tWrite)).2.2))).length : Int)) (par_ret _) par_none) par_none)) par_none)) (par_ret _))

def n43n_d (a0 : Int) (a1 : (List dWrite)) (k : (Int × (List dWrite)) → Option Res) : Option Res :=
  loopK n43n_b0 Fuel (a0, (0 : Int), a1) (fun z1 =>
    k (z1.1, z1.2.2))

def n43n_k := shut n43n_d
theorem n43n_e : n43n_k = n43n_d := shut_eq _

theorem n43n_p (a0 : Int) (a1 : (List dWrite)) : Par (n43n_k a0 a1) := by
  rw [n43n_e]
  unfold n43n_d
  exact ((par_loop n43n_bp0 Fuel (a0, (0 : Int), a1)).bind fun z1 => (par_ret _))

def n41n_j5000003 (x : (Int × Int × (List dTxn))) (k : (Int × Int × (List dTxn)) → Option Res) : Option Res :=
    k (x.1, (IntKind.wrap .i64 (x.2.1 + (1 : Int))), x.2.2)

theorem n41n_jp5000003 (x : (Int × Int × (List dTxn))) : Par (n41n_j5000003 x) := by
  unfold n41n_j5000003
  exact (par_ret _)

def n41n_j5000017 (x : (Int × Int × (List dTxn))) (k : (Int × Int × (List dTxn)) → Option Res) : Option Res :=
    k ((IntKind.wrap .i64 (x.1 + (1 : Int))), x.2.1, x.2.2)

theorem n41n_jp5000017 (x : (Int × Int × (List dTxn))) : Par (n41n_j5000017 x) := by
  unfold n41n_j5000017
  exact (par_ret _)

def n41n_j5000015 (x : (Int × Int × (List dTxn))) (k : (Int × Int × (List dTxn)) → Option Res) : Option Res :=
    n40n_k (IntKind.wrap .i64 (x.1 + (1 : Int))) (fun y10 =>
      if 0 ≤ x.2.1 ∧ x.2.1 < (x.2.2.length : Int) then
        n41n_j5000017 ((IntKind.wrap .i64 (x.1 + (1 : Int))), x.2.1, (x.2.2.set x.2.1.toNat ((x.2.2.getD x.2.1.toNat (Ty.zero tTxn)).1, ((x.2.2.getD x.2.1.toNat (Ty.zero tTxn)).2.1, ((x.2.2.getD x.2.1.toNat (Ty.zero tTxn)).2.2.1, ((x.2.2.getD x.2.1.toNat (Ty.zero tTxn)).2.2.2.1, ((x.2.2.getD x.2.1.toNat (Ty.zero tTxn)).2.2.2.2.1, ((x.2.2.getD x.2.1.toNat (Ty.zero tTxn)).2.2.2.2.2.1, ((x.2.2.getD x.2.1.toNat (Ty.zero tTxn)).2.2.2.2.2.2.1, y10))))))))) (fun z11 =>
          k (z11.1, z11.2.1, z11.2.2))
      else none)

theorem n41n_jp5000015 (x : (Int × Int × (List dTxn))) : Par (n41n_j5000015 x) := by
  unfold n41n_j5000015
  exact ((n40n_p (IntKind.wrap .i64 (x.1 + (1 : Int)))).bind fun y10 => (par_ite (c := 0 ≤ x.2.1 ∧ x.2.1 < (x.2.2.length : Int)) ((n41n_jp5000017 ((IntKind.wrap .i64 (x.1 + (1 : Int))), x.2.1, (x.2.2.set x.2.1.toNat ((x.2.2.getD x.2.1.toNat (Ty.zero tTxn)).1, ((x.2.2.getD x.2.1.toNat (Ty.zero tTxn)).2.1, ((x.2.2.getD x.2.1.toNat (Ty.zero tTxn)).2.2.1, ((x.2.2.getD x.2.1.toNat (Ty.zero tTxn)).2.2.2.1, ((x.2.2.getD x.2.1.toNat (Ty.zero tTxn)).2.2.2.2.1, ((x.2.2.getD x.2.1.toNat (Ty.zero tTxn)).2.2.2.2.2.1, ((x.2.2.getD x.2.1.toNat (Ty.zero tTxn)).2.2.2.2.2.2.1, y10)))))))))).bind fun z11 => (par_ret _)) par_none))

def n41n_j5000011 (x : (Int × Int × (List dTxn))) (k : (Int × Int × (List dTxn)) → Option Res) : Option Res :=
    if 0 ≤ x.2.1 ∧ x.2.1 < (x.2.2.length : Int) then
      n39n_k (IntKind.wrap .i64 (x.1 + (1 : Int))) ((x.2.2.getD x.2.1.toNat (Ty.zero tTxn)).2.2.2.2.1) (fun y7 =>
        if 0 ≤ x.2.1 ∧ x.2.1 < ((x.2.2.set x.2.1.toNat ((x.2.2.getD x.2.1.toNat (Ty.zero tTxn)).1, ((x.2.2.getD x.2.1.toNat (Ty.zero tTxn)).2.1, ((x.2.2.getD x.2.1.toNat (Ty.zero tTxn)).2.2.1, ((x.2.2.getD x.2.1.toNat (Ty.zero tTxn)).2.2.2.1, (y7.2, (x.2.2.getD x.2.1.toNat (Ty.zero tTxn)).2.2.2.2.2)))))).length : Int) then
          n43n_k y7.1 (((x.2.2.set x.2.1.toNat ((x.2.2.getD x.2.1.toNat (Ty.zero tTxn)).1, ((x.2.2.getD x.2.1.toNat (Ty.zero tTxn)).2.1, ((x.2.2.getD x.2.1.toNat (Ty.zero tTxn)).2.2.1, ((x.2.2.getD x.2.1.toNat (Ty.zero tTxn)).2.2.2.1, (y7.2, (x.2.2.getD x.2.1.toNat (Ty.zero tTxn)).2.2.2.2.2)))))).getD x.2.1.toNat (Ty.zero tTxn)).2.2.2.2.2.1) (fun y8 =>
            if 0 ≤ x.2.1 ∧ x.2.1 < (((x.2.2.set x.2.1.toNat ((x.2.2.getD x.2.1.toNat (Ty.zero tTxn)).1, ((x.2.2.getD x.2.1.toNat (Ty.zero tTxn)).2.1, ((x.2.2.getD x.2.1.toNat (Ty.zero tTxn)).2.2.1, ((x.2.2.getD x.2.1.toNat (Ty.zero tTxn)).2.2.2.1, (y7.2, (x.2.2.getD x.2.1.toNat (Ty.zero tTxn)).2.2.2.2.2)))))).set x.2.1.toNat (((x.2.2.set x.2.1.toNat ((x.2.2.getD x.2.1.toNat (Ty.zero tTxn)).1, ((x.2.2.getD x.2.1.toNat (Ty.zero tTxn)).2.1, ((x.2.2.getD x.2.1.toNat (Ty.zero tTxn)).2.2.1, ((x.2.2.getD x.2.1.toNat (Ty.zero tTxn)).2.2.2.1, (y7.2, (x.2.2.getD x.2.1.toNat (Ty.zero tTxn)).2.2.2.2.2)))))).getD x.2.1.toNat (Ty.zero tTxn)).1, (((x.2.2.set x.2.1.toNat ((x.2.2.getD x.2.1.toNat (Ty.zero tTxn)).1, ((x.2.2.getD x.2.1.toNat (Ty.zero tTxn)).2.1, ((x.2.2.getD x.2.1.toNat (Ty.zero tTxn)).2.2.1, ((x.2.2.getD x.2.1.toNat (Ty.zero tTxn)).2.2.2.1, (y7.2, (x.2.2.getD x.2.1.toNat (Ty.zero tTxn)).2.2.2.2.2)))))).getD x.2.1.toNat (Ty.zero tTxn)).2.1, (((x.2.2.set x.2.1.toNat ((x.2.2.getD x.2.1.toNat (Ty.zero tTxn)).1, ((x.2.2.getD x.2.1.toNat (Ty.zero tTxn)).2.1, ((x.2.2.getD x.2.1.toNat (Ty.zero tTxn)).2.2.1, ((x.2.2.getD x.2.1.toNat (Ty.zero tTxn)).2.2.2.1, (y7.2, (x.2.2.getD x.2.1.toNat (Ty.zero tTxn)).2.2.2.2.2)))))).getD x.2.1.toNat (Ty.zero tTxn)).2.2.1, (((x.2.2.set x.2.1.toNat ((x.2.2.getD x.2.1.toNat (Ty.zero tTxn)).1, ((x.2.2.getD x.2.1.toNat (Ty.zero tTxn)).2.1, ((x.2.2.getD x.2.1.toNat (Ty.zero tTxn)).2.2.1, ((x.2.2.getD x.2.1.toNat (Ty.zero tTxn)).2.2.2.1, (y7.2, (x.2.2.getD x.2.1.toNat (Ty.zero tTxn)).2.2.2.2.2)))))).getD x.2.1.toNat (Ty.zero tTxn)).2.2.2.1, (((x.2.2.set x.2.1.toNat ((x.2.2.getD x.2.1.toNat (Ty.zero tTxn)).1, ((x.2.2.getD x.2.1.toNat (Ty.zero tTxn)).2.1, ((x.2.2.getD x.2.1.toNat (Ty.zero tTxn)).2.2.1, ((x.2.2.getD x.2.1.toNat (Ty.zero tTxn)).2.2.2.1, (y7.2, (x.2.2.getD x.2.1.toNat (Ty.zero tTxn)).2.2.2.2.2)))))).getD x.2.1.toNat (Ty.zero tTxn)).2.2.2.2.1, (y8.2, ((x.2.2.set x.2.1.toNat ((x.2.2.getD x.2.1.toNat (Ty.zero tTxn)).1, ((x.2.2.getD x.2.1.toNat (Ty.zero tTxn)).2.1, ((x.2.2.getD x.2.1.toNat (Ty.zero tTxn)).2.2.1, ((x.2.2.getD x.2.1.toNat (Ty.zero tTxn)).2.2.2.1, (y7.2, (x.2.2.getD x.2.1.toNat (Ty.zero tTxn)).2.2.2.2.2)))))).getD x.2.1.toNat (Ty.zero tTxn)).2.2.2.2.2.2))))))).length : Int) then
              n41n_j5000015 (y8.1, x.2.1, (((x.2.2.set x.2.1.toNat ((x.2.2.getD x.2.1.toNat (Ty.zero tTxn)).1, ((x.2.2.getD x.2.1.toNat (Ty.zero tTxn)).2.1, ((x.2.2.getD x.2.1.toNat (Ty.zero tTxn)).2.2.1, ((x.2.2.getD x.2.1.toNat (Ty.zero tTxn)).2.2.2.1, (y7.2, (x.2.2.getD x.2.1.toNat (Ty.zero tTxn)).2.2.2.2.2)))))).set x.2.1.toNat (((x.2.2.set x.2.1.toNat ((x.2.2.getD x.2.1.toNat (Ty.zero tTxn)).1, ((x.2.2.getD x.2.1.toNat (Ty.zero tTxn)).2.1, ((x.2.2.getD x.2.1.toNat (Ty.zero tTxn)).2.2.1, ((x.2.2.getD x.2.1.toNat (Ty.zero tTxn)).2.2.2.1, (y7.2, (x.2.2.getD x.2.1.toNat (Ty.zero tTxn)).2.2.2.2.2)))))).getD x.2.1.toNat (Ty.zero tTxn)).1, (((x.2.2.set x.2.1.toNat ((x.2.2.getD x.2.1.toNat (Ty.zero tTxn)).1, ((x.2.2.getD x.2.1.toNat (Ty.zero tTxn)).2.1, ((x.2.2.getD x.2.1.toNat (Ty.zero tTxn)).2.2.1, ((x.2.2.getD x.2.1.toNat (Ty.zero tTxn)).2.2.2.1, (y7.2, (x.2.2.getD x.2.1.toNat (Ty.zero tTxn)).2.2.2.2.2)))))).getD x.2.1.toNat (Ty.zero tTxn)).2.1, (((x.2.2.set x.2.1.toNat ((x.2.2.getD x.2.1.toNat (Ty.zero tTxn)).1, ((x.2.2.getD x.2.1.toNat (Ty.zero tTxn)).2.1, ((x.2.2.getD x.2.1.toNat (Ty.zero tTxn)).2.2.1, ((x.2.2.getD x.2.1.toNat (Ty.zero tTxn)).2.2.2.1, (y7.2, (x.2.2.getD x.2.1.toNat (Ty.zero tTxn)).2.2.2.2.2)))))).getD x.2.1.toNat (Ty.zero tTxn)).2.2.1, (((x.2.2.set x.2.1.toNat ((x.2.2.getD x.2.1.toNat (Ty.zero tTxn)).1, ((x.2.2.getD x.2.1.toNat (Ty.zero tTxn)).2.1, ((x.2.2.getD x.2.1.toNat (Ty.zero tTxn)).2.2.1, ((x.2.2.getD x.2.1.toNat (Ty.zero tTxn)).2.2.2.1, (y7.2, (x.2.2.getD x.2.1.toNat (Ty.zero tTxn)).2.2.2.2.2)))))).getD x.2.1.toNat (Ty.zero tTxn)).2.2.2.1, (((x.2.2.set x.2.1.toNat ((x.2.2.getD x.2.1.toNat (Ty.zero tTxn)).1, ((x.2.2.getD x.2.1.toNat (Ty.zero tTxn)).2.1, ((x.2.2.getD x.2.1.toNat (Ty.zero tTxn)).2.2.1, ((x.2.2.getD x.2.1.toNat (Ty.zero tTxn)).2.2.2.1, (y7.2, (x.2.2.getD x.2.1.toNat (Ty.zero tTxn)).2.2.2.2.2)))))).getD x.2.1.toNat (Ty.zero tTxn)).2.2.2.2.1, (y8.2, ((x.2.2.set x.2.1.toNat ((x.2.2.getD x.2.1.toNat (Ty.zero tTxn)).1, ((x.2.2.getD x.2.1.toNat (Ty.zero tTxn)).2.1, ((x.2.2.getD x.2.1.toNat (Ty.zero tTxn)).2.2.1, ((x.2.2.getD x.2.1.toNat (Ty.zero tTxn)).2.2.2.1, (y7.2, (x.2.2.getD x.2.1.toNat (Ty.zero tTxn)).2.2.2.2.2)))))).getD x.2.1.toNat (Ty.zero tTxn)).2.2.2.2.2.2))))))).set x.2.1.toNat ((((x.2.2.set x.2.1.toNat ((x.2.2.getD x.2.1.toNat (Ty.zero tTxn)).1, ((x.2.2.getD x.2.1.toNat (Ty.zero tTxn)).2.1, ((x.2.2.getD x.2.1.toNat (Ty.zero tTxn)).2.2.1, ((x.2.2.getD x.2.1.toNat (Ty.zero tTxn)).2.2.2.1, (y7.2, (x.2.2.getD x.2.1.toNat (Ty.zero tTxn)).2.2.2.2.2)))))).set x.2.1.toNat (((x.2.2.set x.2.1.toNat ((x.2.2.getD x.2.1.toNat (Ty.zero tTxn)).1, ((x.2.2.getD x.2.1.toNat (Ty.zero tTxn)).2.1, ((x.2.2.getD x.2.1.toNat (Ty.zero tTxn)).2.2.1, ((x.2.2.getD x.2.1.toNat (Ty.zero tTxn)).2.2.2.1, (y7.2, (x.2.2.getD x.2.1.toNat (Ty.zero tTxn)).2.2.2.2.2)))))).getD x.2.1.toNat (Ty.zero tTxn)).1, (((x.2.2.set x.2.1.toNat ((x.2.2.getD x.2.1.toNat (Ty.zero tTxn)).1, ((x.2.2.getD x.2.1.toNat (Ty.zero tTxn)).2.1, ((x.2.2.getD x.2.1.toNat (Ty.zero tTxn)).2.2.1, ((x.2.2.getD x.2.1.toNat (Ty.zero tTxn)).2.2.2.1, (y7.2, (x.2.2.getD x.2.1.toNat (Ty.zero tTxn)).2.2.2.2.2)))))).getD x.2.1.toNat (Ty.zero tTxn)).2.1, (((x.2.2.set x.2.1.toNat ((x.2.2.getD x.2.1.toNat (Ty.zero tTxn)).1, ((x.2.2.getD x.2.1.toNat (Ty.zero tTxn)).2.1, ((x.2.2.getD x.2.1.toNat (Ty.zero tTxn)).2.2.1, ((x.2.2.getD x.2.1.toNat (Ty.zero tTxn)).2.2.2.1, (y7.2, (x.2.2.getD x.2.1.toNat (Ty.zero tTxn)).2.2.2.2.2)))))).getD x.2.1.toNat (Ty.zero tTxn)).2.2.1, (((x.2.2.set x.2.1.toNat ((x.2.2.getD x.2.1.toNat (Ty.zero tTxn)).1, ((x.2.2.getD x.2.1.toNat (Ty.zero tTxn)).2.1, ((x.2.2.getD x.2.1.toNat (Ty.zero tTxn)).2.2.1, ((x.2.2.getD x.2.1.toNat (Ty.zero tTxn)).2.2.2.1, (y7.2, (x.2.2.getD x.2.1.toNat (Ty.zero tTxn)).2.2.2.2.2)))))).getD x.2.1.toNat (Ty.zero tTxn)).2.2.2.1, (((x.2.2.set x.2.1.toNat ((x.2.2.getD x.2.1.toNat (Ty.zero tTxn)).1, ((x.2.2.getD x.2.1.toNat (Ty.zero tTxn)).2.1, ((x.2.2.getD x.2.1.toNat (Ty.zero tTxn)).2.2.1, ((x.2.2.getD x.2.1.toNat (Ty.zero tTxn)).2.2.2.1, (y7.2, (x.2.2.getD x.2.1.toNat (Ty.zero tTxn)).2.2.2.2.2)))))).getD x.2.1.toNat (Ty.zero tTxn)).2.2.2.2.1, (y8.2, ((x.2.2.set x.2.1.toNat ((x.2.2.getD x.2.1.toNat (Ty.zero tTxn)).1, ((x.2.2.getD x.2.1.toNat (Ty.zero tTxn)).2.1, ((x.2.2.getD x.2.1.toNat (Ty.zero tTxn)).2.2.1, ((x.2.2.getD x.2.1.toNat (Ty.zero tTxn)).2.2.2.1, (y7.2, (x.2.2.getD x.2.1.toNat (Ty.zero tTxn)).2.2.2.2.2)))))).getD x.2.1.toNat (Ty.zero tTxn)).2.2.2.2.2.2))))))).getD x.2.1.toNat (Ty.zero tTxn)).1, ((((x.2.2.set x.2.1.toNat ((x.2.2.getD x.2.1.toNat (Ty.zero tTxn)).1, ((x.2.2.getD x.2.1.toNat (Ty.zero tTxn)).2.1, ((x.2.2.getD x.2.1.toNat (Ty.zero tTxn)).2.2.1, ((x.2.2.getD x.2.1.toNat (Ty.zero tTxn)).2.2.2.1, (y7.2, (x.2.2.getD x.2.1.toNat (Ty.zero tTxn)).2.2.2.2.2)))))).set x.2.1.toNat (((x.2.2.set x.2.1.toNat ((x.2.2.getD x.2.1.toNat (Ty.zero tTxn)).1, ((x.2.2.getD x.2.1.toNat (Ty.zero tTxn)).2.1, ((x.2.2.getD x.2.1.toNat (Ty.zero tTxn)).2.2.1, ((x.2.2.getD x.2.1.toNat (Ty.zero tTxn)).2.2.2.1, (y7.2, (x.2.2.getD x.2.1.toNat (Ty.zero tTxn)).2.2.2.2.2)))))).getD x.2.1.toNat (Ty.zero tTxn)).1, (((x.2.2.set x.2.1.toNat ((x.2.2.getD x.2.1.toNat (Ty.zero tTxn)).1, ((x.2.2.getD x.2.1.toNat (Ty.zero tTxn)).2.1, ((x.2.2.getD x.2.1.toNat (Ty.zero tTxn)).2.2.1, ((x.2.2.getD x.2.1.toNat (Ty.zero tTxn)).2.2.2.1, (y7.2, (x.2.2.getD x.2.1.toNat (Ty.zero tTxn)).2.2.2.2.2)))))).getD x.2.1.toNat (Ty.zero tTxn)).2.1, (((x.2.2.set x.2.1.toNat ((x.2.2.getD x.2.1.toNat (Ty.zero tTxn)).1, ((x.2.2.getD x.2.1.toNat (Ty.zero tTxn)).2.1, ((x.2.2.getD x.2.1.toNat (Ty.zero tTxn)).2.2.1, ((x.2.2.getD x.2.1.toNat (Ty.zero tTxn)).2.2.2.1, (y7.2, (x.2.2.getD x.2.1.toNat (Ty.zero tTxn)).2.2.2.2.2)))))).getD x.2.1.toNat (Ty.zero tTxn)).2.2.1, (((x.2.2.set x.2.1.toNat ((x.2.2.getD x.2.1.toNat (Ty.zero tTxn)).1, ((x.2.2.getD x.2.1.toNat (Ty.zero tTxn)).2.1, ((x.2.2.getD x.2.1.toNat (Ty.zero tTxn)).2.2.1, ((x.2.2.getD x.2.1.toNat (Ty.zero tTxn)).2.2.2.1, (y7.2, (x.2.2.getD x.2.1.toNat (Ty.zero tTxn)).2.2.2.2.2)))))).getD x.2.1.toNat (Ty.zero tTxn)).2.2.2.1, (((x.2.2.set x.2.1.toNat ((x.2.2.getD x.2.1.toNat (Ty.zero tTxn)).1, ((x.2.2.getD x.2.1.toNat (Ty.zero tTxn)).2.1, ((x.2.2.getD x.2.1.toNat (Ty.zero tTxn)).2.2.1, ((x.2.2.getD x.2.1.toNat (Ty.zero tTxn)).2.2.2.1, (y7.2, (x.2.2.getD x.2.1.toNat (Ty.zero tTxn)).2.2.2.2.2)))))).getD x.2.1.toNat (Ty.zero tTxn)).2.2.2.2.1, (y8.2, ((x.2.2.set x.2.1.toNat ((x.2.2.getD x.2.1.toNat (Ty.zero tTxn)).1, ((x.2.2.getD x.2.1.toNat (Ty.zero tTxn)).2.1, ((x.2.2.getD x.2.1.toNat (Ty.zero tTxn)).2.2.1, ((x.2.2.getD x.2.1.toNat (Ty.zero tTxn)).2.2.2.1, (y7.2, (x.2.2.getD x.2.1.toNat (Ty.zero tTxn)).2.2.2.2.2)))))).getD x.2.1.toNat (Ty.zero tTxn)).2.2.2.2.2.2))))))).getD x.2.1.toNat (Ty.zero tTxn)).2.1, ((((x.2.2.set x.2.1.toNat ((x.2.2.getD x.2.1.toNat (Ty.zero tTxn)).1, ((x.2.2.getD x.2.1.toNat (Ty.zero tTxn)).2.1, ((x.2.2.getD x.2.1.toNat (Ty.zero tTxn)).2.2.1, ((x.2.2.getD x.2.1.toNat (Ty.zero tTxn)).2.2.2.1, (y7.2, (x.2.2.getD x.2.1.toNat (Ty.zero tTxn)).2.2.2.2.2)))))).set x.2.1.toNat (((x.2.2.set x.2.1.toNat ((x.2.2.getD x.2.1.toNat (Ty.zero tTxn)).1, ((x.2.2.getD x.2.1.toNat (Ty.zero tTxn)).2.1, ((x.2.2.getD x.2.1.toNat (Ty.zero tTxn)).2.2.1, ((x.2.2.getD x.2.1.toNat (Ty.zero tTxn)).2.2.2.1, (y7.2, (x.2.2.getD x.2.1.toNat (Ty.zero tTxn)).2.2.2.2.2)))))).getD x.2.1.toNat (Ty.zero tTxn)).1, (((x.2.2.set x.2.1.toNat ((x.2.2.getD x.2.1.toNat (Ty.zero tTxn)).1, ((x.2.2.getD x.2.1.toNat (Ty.zero tTxn)).2.1, ((x.2.2.getD x.2.1.toNat (Ty.zero tTxn)).2.2.1, ((x.2.2.getD x.2.1.toNat (Ty.zero tTxn)).2.2.2.1, (y7.2, (x.2.2.getD x.2.1.toNat (Ty.zero tTxn)).2.2.2.2.2)))))).getD x.2.1.toNat (Ty.zero tTxn)).2.1, (((x.2.2.set x.2.1.toNat ((x.2.2.getD x.2.1.toNat (Ty.zero tTxn)).1, ((x.2.2.getD x.2.1.toNat (Ty.zero tTxn)).2.1, ((x.2.2.getD x.2.1.toNat (Ty.zero tTxn)).2.2.1, ((x.2.2.getD x.2.1.toNat (Ty.zero tTxn)).2.2.2.1, (y7.2, (x.2.2.getD x.2.1.toNat (Ty.zero tTxn)).2.2.2.2.2)))))).getD x.2.1.toNat (Ty.zero tTxn)).2.2.1, (((x.2.2.set x.2.1.toNat ((x.2.2.getD x.2.1.toNat (Ty.zero tTxn)).1, ((x.2.2.getD x.2.1.toNat (Ty.zero tTxn)).2.1, ((x.2.2.getD x.2.1.toNat (Ty.zero tTxn)).2.2.1, ((x.2.2.getD x.2.1.toNat (Ty.zero tTxn)).2.2.2.1, (y7.2, (x.2.2.getD x.2.1.toNat (Ty.zero tTxn)).2.2.2.2.2)))))).getD x.2.1.toNat (Ty.zero tTxn)).2.2.2.1, (((x.2.2.set x.2.1.toNat ((x.2.2.getD x.2.1.toNat (Ty.zero tTxn)).1, ((x.2.2.getD x.2.1.toNat (Ty.zero tTxn)).2.1, ((x.2.2.getD x.2.1.toNat (Ty.zero tTxn)).2.2.1, ((x.2.2.getD x.2.1.toNat (Ty.zero tTxn)).2.2.2.1, (y7.2, (x.2.2.getD x.2.1.toNat (Ty.zero tTxn)).2.2.2.2.2)))))).getD x.2.1.toNat (Ty.zero tTxn)).2.2.2.2.1, (y8.2, ((x.2.2.set x.2.1.toNat ((x.2.2.getD x.2.1.toNat (Ty.zero tTxn)).1, ((x.2.2.getD x.2.1.toNat (Ty.zero tTxn)).2.1, ((x.2.2.getD x.2.1.toNat (Ty.zero tTxn)).2.2.1, ((x.2.2.getD x.2.1.toNat (Ty.zero tTxn)).2.2.2.1, (y7.2, (x.2.2.getD x.2.1.toNat (Ty.zero tTxn)).2.2.2.2.2)))))).getD x.2.1.toNat (Ty.zero tTxn)).2.2.2.2.2.2))))))).getD x.2.1.toNat (Ty.zero tTxn)).2.2.1, ((((x.2.2.set x.2.1.toNat ((x.2.2.getD x.2.1.toNat (Ty.zero tTxn)).1, ((x.2.2.getD x.2.1.toNat (Ty.zero tTxn)).2.1, ((x.2.2.getD x.2.1.toNat (Ty.zero tTxn)).2.2.1, ((x.2.2.getD x.2.1.toNat (Ty.zero tTxn)).2.2.2.1, (y7.2, (x.2.2.getD x.2.1.toNat (Ty.zero tTxn)).2.2.2.2.2)))))).set x.2.1.toNat (((x.2.2.set x.2.1.toNat ((x.2.2.getD x.2.1.toNat (Ty.zero tTxn)).1, ((x.2.2.getD x.2.1.toNat (Ty.zero tTxn)).2.1, ((x.2.2.getD x.2.1.toNat (Ty.zero tTxn)).2.2.1, ((x.2.2.getD x.2.1.toNat (Ty.zero tTxn)).2.2.2.1, (y7.2, (x.2.2.getD x.2.1.toNat (Ty.zero tTxn)).2.2.2.2.2)))))).getD x.2.1.toNat (Ty.zero tTxn)).1, (((x.2.2.set x.2.1.toNat ((x.2.2.getD x.2.1.toNat (Ty.zero tTxn)).1, ((x.2.2.getD x.2.1.toNat (Ty.zero tTxn)).2.1, ((x.2.2.getD x.2.1.toNat (Ty.zero tTxn)).2.2.1, ((x.2.2.getD x.2.1.toNat (Ty.zero tTxn)).2.2.2.1, (y7.2, (x.2.2.getD x.2.1.toNat (Ty.zero tTxn)).2.2.2.2.2)))))).getD x.2.1.toNat (Ty.zero tTxn)).2.1, (((x.2.2.set x.2.1.toNat ((x.2.2.getD x.2.1.toNat (Ty.zero tTxn)).1, ((x.2.2.getD x.2.1.toNat (Ty.zero tTxn)).2.1, ((x.2.2.getD x.2.1.toNat (Ty.zero tTxn)).2.2.1, ((x.2.2.getD x.2.1.toNat (Ty.zero tTxn)).2.2.2.1, (y7.2, (x.2.2.getD x.2.1.toNat (Ty.zero tTxn)).2.2.2.2.2)))))).getD x.2.1.toNat (Ty.zero tTxn)).2.2.1, (((x.2.2.set x.2.1.toNat ((x.2.2.getD x.2.1.toNat (Ty.zero tTxn)).1, ((x.2.2.getD x.2.1.toNat (Ty.zero tTxn)).2.1, ((x.2.2.getD x.2.1.toNat (Ty.zero tTxn)).2.2.1, ((x.2.2.getD x.2.1.toNat (Ty.zero tTxn)).2.2.2.1, (y7.2, (x.2.2.getD x.2.1.toNat (Ty.zero tTxn)).2.2.2.2.2)))))).getD x.2.1.toNat (Ty.zero tTxn)).2.2.2.1, (((x.2.2.set x.2.1.toNat ((x.2.2.getD x.2.1.toNat (Ty.zero tTxn)).1, ((x.2.2.getD x.2.1.toNat (Ty.zero tTxn)).2.1, ((x.2.2.getD x.2.1.toNat (Ty.zero tTxn)).2.2.1, ((x.2.2.getD x.2.1.toNat (Ty.zero tTxn)).2.2.2.1, (y7.2, (x.2.2.getD x.2.1.toNat (Ty.zero tTxn)).2.2.2.2.2)))))).getD x.2.1.toNat (Ty.zero tTxn)).2.2.2.2.1, (y8.2, ((x.2.2.set x.2.1.toNat ((x.2.2.getD x.2.1.toNat (Ty.zero tTxn)).1, ((x.2.2.getD x.2.1.toNat (Ty.zero tTxn)).2.1, ((x.2.2.getD x.2.1.toNat (Ty.zero tTxn)).2.2.1, ((x.2.2.getD x.2.1.toNat (Ty.zero tTxn)).2.2.2.1, (y7.2, (x.2.2.getD x.2.1.toNat (Ty.zero tTxn)).2.2.2.2.2)))))).getD x.2.1.toNat (Ty.zero tTxn)).2.2.2.2.2.2))))))).getD x.2.1.toNat (Ty.zero tTxn)).2.2.2.1, ((((x.2.2.set x.2.1.toNat ((x.2.2.getD x.2.1.toNat (Ty.zero tTxn)).1, ((x.2.2.getD x.2.1.toNat (Ty.zero tTxn)).2.1, ((x.2.2.getD x.2.1.toNat (Ty.zero tTxn)).2.2.1, ((x.2.2.getD x.2.1.toNat (Ty.zero tTxn)).2.2.2.1, (y7.2, (x.2.2.getD x.2.1.toNat (Ty.zero tTxn)).2.2.2.2.2)))))).set x.2.1.toNat (((x.2.2.set x.2.1.toNat ((x.2.2.getD x.2.1.toNat (Ty.zero tTxn)).1, ((x.2.2.getD x.2.1.toNat (Ty.zero tTxn)).2.1, ((x.2.2.getD x.2.1.toNat (Ty.zero tTxn)).2.2.1, ((x.2.2.getD x.2.1.toNat (Ty.zero tTxn)).2.2.2.1, (y7.2, (x.2.2.getD x.2.1.toNat (Ty.zero tTxn)).2.2.2.2.2)))))).getD x.2.1.toNat (Ty.zero tTxn)).1, (((x.2.2.set x.2.1.toNat ((x.2.2.getD x.2.1.toNat (Ty.zero tTxn)).1, ((x.2.2.getD x.2.1.toNat (Ty.zero tTxn)).2.1, ((x.2.2.getD x.2.1.toNat (Ty.zero tTxn)).2.2.1, ((x.2.2.getD x.2.1.toNat (Ty.zero tTxn)).2.2.2.1, (y7.2, (x.2.2.getD x.2.1.toNat (Ty.zero tTxn)).2.2.2.2.2)))))).getD x.2.1.toNat (Ty.zero tTxn)).2.1, (((x.2.2.set x.2.1.toNat ((x.2.2.getD x.2.1.toNat (Ty.zero tTxn)).1, ((x.2.2.getD x.2.1.toNat (Ty.zero tTxn)).2.1, ((x.2.2.getD x.2.1.toNat (Ty.zero tTxn)).2.2.1, ((x.2.2.getD x.2.1.toNat (Ty.zero tTxn)).2.2.2.1, (y7.2, (x.2.2.getD x.2.1.toNat (Ty.zero tTxn)).2.2.2.2.2)))))).getD x.2.1.toNat (Ty.zero tTxn)).2.2.1, (((x.2.2.set x.2.1.toNat ((x.2.2.getD x.2.1.toNat (Ty.zero tTxn)).1, ((x.2.2.getD x.2.1.toNat (Ty.zero tTxn)).2.1, ((x.2.2.getD x.2.1.toNat (Ty.zero tTxn)).2.2.1, ((x.2.2.getD x.2.1.toNat (Ty.zero tTxn)).2.2.2.1, (y7.2, (x.2.2.getD x.2.1.toNat (Ty.zero tTxn)).2.2.2.2.2)))))).getD x.2.1.toNat (Ty.zero tTxn)).2.2.2.1, (((x.2.2.set x.2.1.toNat ((x.2.2.getD x.2.1.toNat (Ty.zero tTxn)).1, ((x.2.2.getD x.2.1.toNat (Ty.zero tTxn)).2.1, ((x.2.2.getD x.2.1.toNat (Ty.zero tTxn)).2.2.1, ((x.2.2.getD x.2.1.toNat (Ty.zero tTxn)).2.2.2.1, (y7.2, (x.2.2.getD x.2.1.toNat (Ty.zero tTxn)).2.2.2.2.2)))))).getD x.2.1.toNat (Ty.zero tTxn)).2.2.2.2.1, (y8.2, ((x.2.2.set x.2.1.toNat ((x.2.2.getD x.2.1.toNat (Ty.zero tTxn)).1, ((x.2.2.getD x.2.1.toNat (Ty.zero tTxn)).2.1, ((x.2.2.getD x.2.1.toNat (Ty.zero tTxn)).2.2.1, ((x.2.2.getD x.2.1.toNat (Ty.zero tTxn)).2.2.2.1, (y7.2, (x.2.2.getD x.2.1.toNat (Ty.zero tTxn)).2.2.2.2.2)))))).getD x.2.1.toNat (Ty.zero tTxn)).2.2.2.2.2.2))))))).getD x.2.1.toNat (Ty.zero tTxn)).2.2.2.2.1, ((((x.2.2.set x.2.1.toNat ((x.2.2.getD x.2.1.toNat (Ty.zero tTxn)).1, ((x.2.2.getD x.2.1.toNat (Ty.zero tTxn)).2.1, ((x.2.2.getD x.2.1.toNat (Ty.zero tTxn)).2.2.1, ((x.2.2.getD x.2.1.toNat (Ty.zero tTxn)).2.2.2.1, (y7.2, (x.2.2.getD x.2.1.toNat (Ty.zero tTxn)).2.2.2.2.2)))))).set x.2.1.toNat (((x.2.2.set x.2.1.toNat ((x.2.2.getD x.2.1.toNat (Ty.zero tTxn)).1, ((x.2.2.getD x.2.1.toNat (Ty.zero tTxn)).2.1, ((x.2.2.getD x.2.1.toNat (Ty.zero tTxn)).2.2.1, ((x.2.2.getD x.2.1.toNat (Ty.zero tTxn)).2.2.2.1, (y7.2, (x.2.2.getD x.2.1.toNat (Ty.zero tTxn)).2.2.2.2.2)))))).getD x.2.1.toNat (Ty.zero tTxn)).1, (((x.2.2.set x.2.1.toNat ((x.2.2.getD x.2.1.toNat (Ty.zero tTxn)).1, ((x.2.2.getD x.2.1.toNat (Ty.zero tTxn)).2.1, ((x.2.2.getD x.2.1.toNat (Ty.zero tTxn)).2.2.1, ((x.2.2.getD x.2.1.toNat (Ty.zero tTxn)).2.2.2.1, (y7.2, (x.2.2.getD x.2.1.toNat (Ty.zero tTxn)).2.2.2.2.2)))))).getD x.2.1.toNat (Ty.zero tTxn)).2.1, (((x.2.2.set x.2.1.toNat ((x.2.2.getD x.2.1.toNat (Ty.zero tTxn)).1, ((x.2.2.getD x.2.1.toNat (Ty.zero tTxn)).2.1, ((x.2.2.getD x.2.1.toNat (Ty.zero tTxn)).2.2.1, ((x.2.2.getD x.2.1.toNat (Ty.zero tTxn)).2.2.2.1, (y7.2, (x.2.2.getD x.2.1.toNat (Ty.zero tTxn)).2.2.2.2.2)))))).getD x.2.1.toNat (Ty.zero tTxn)).2.2.1, (((x.2.2.set x.2.1.toNat ((x.2.2.getD x.2.1.toNat (Ty.zero tTxn)).1, ((x.2.2.getD x.2.1.toNat (Ty.zero tTxn)).2.1, ((x.2.2.getD x.2.1.toNat (Ty.zero tTxn)).2.2.1, ((x.2.2.getD x.2.1.toNat (Ty.zero tTxn)).2.2.2.1, (y7.2, (x.2.2.getD x.2.1.toNat (Ty.zero tTxn)).2.2.2.2.2)))))).getD x.2.1.toNat (Ty.zero tTxn)).2.2.2.1, (((x.2.2.set x.2.1.toNat ((x.2.2.getD x.2.1.toNat (Ty.zero tTxn)).1, ((x.2.2.getD x.2.1.toNat (Ty.zero tTxn)).2.1, ((x.2.2.getD x.2.1.toNat (Ty.zero tTxn)).2.2.1, ((x.2.2.getD x.2.1.toNat (Ty.zero tTxn)).2.2.2.1, (y7.2, (x.2.2.getD x.2.1.toNat (Ty.zero tTxn)).2.2.2.2.2)))))).getD x.2.1.toNat (Ty.zero tTxn)).2.2.2.2.1, (y8.2, ((x.2.2.set x.2.1.toNat ((x.2.2.getD x.2.1.toNat (Ty.zero tTxn)).1, ((x.2.2.getD x.2.1.toNat (Ty.zero tTxn)).2.1, ((x.2.2.getD x.2.1.toNat (Ty.zero tTxn)).2.2.1, ((x.2.2.getD x.2.1.toNat (Ty.zero tTxn)).2.2.2.1, (y7.2, (x.2.2.getD x.2.1.toNat (Ty.zero tTxn)).2.2.2.2.2)))))).getD x.2.1.toNat (Ty.zero tTxn)).2.2.2.2.2.2))))))).getD x.2.1.toNat (Ty.zero tTxn)).2.2.2.2.2.1, (((y8.1.tmod (3 : Int)) == (0 : Int)), (((x.2.2.set x.2.1.toNat ((x.2.2.getD x.2.1.toNat (Ty.zero tTxn)).1, ((x.2.2.getD x.2.1.toNat (Ty.zero tTxn)).2.1, ((x.2.2.getD x.2.1.toNat (Ty.zero tTxn)).2.2.1, ((x.2.2.getD x.2.1.toNat (Ty.zero tTxn)).2.2.2.1, (y7.2, (x.2.2.getD x.2.1.toNat (Ty.zero tTxn)).2.2.2.2.2)))))).set x.2.1.toNat (((x.2.2.set x.2.1.toNat ((x.2.2.getD x.2.1.toNat (Ty.zero tTxn)).1, ((x.2.2.getD x.2.1.toNat (Ty.zero tTxn)).2.1, ((x.2.2.getD x.2.1.toNat (Ty.zero tTxn)).2.2.1, ((x.2.2.getD x.2.1.toNat (Ty.zero tTxn)).2.2.2.1, (y7.2, (x.2.2.getD x.2.1.toNat (Ty.zero tTxn)).2.2.2.2.2)))))).getD x.2.1.toNat (Ty.zero tTxn)).1, (((x.2.2.set x.2.1.toNat ((x.2.2.getD x.2.1.toNat (Ty.zero tTxn)).1, ((x.2.2.getD x.2.1.toNat (Ty.zero tTxn)).2.1, ((x.2.2.getD x.2.1.toNat (Ty.zero tTxn)).2.2.1, ((x.2.2.getD x.2.1.toNat (Ty.zero tTxn)).2.2.2.1, (y7.2, (x.2.2.getD x.2.1.toNat (Ty.zero tTxn)).2.2.2.2.2)))))).getD x.2.1.toNat (Ty.zero tTxn)).2.1, (((x.2.2.set x.2.1.toNat ((x.2.2.getD x.2.1.toNat (Ty.zero tTxn)).1, ((x.2.2.getD x.2.1.toNat (Ty.zero tTxn)).2.1, ((x.2.2.getD x.2.1.toNat (Ty.zero tTxn)).2.2.1, ((x.2.2.getD x.2.1.toNat (Ty.zero tTxn)).2.2.2.1, (y7.2, (x.2.2.getD x.2.1.toNat (Ty.zero tTxn)).2.2.2.2.2)))))).getD x.2.1.toNat (Ty.zero tTxn)).2.2.1, (((x.2.2.set x.2.1.toNat ((x.2.2.getD x.2.1.toNat (Ty.zero tTxn)).1, ((x.2.2.getD x.2.1.toNat (Ty.zero tTxn)).2.1, ((x.2.2.getD x.2.1.toNat (Ty.zero tTxn)).2.2.1, ((x.2.2.getD x.2.1.toNat (Ty.zero tTxn)).2.2.2.1, (y7.2, (x.2.2.getD x.2.1.toNat (Ty.zero tTxn)).2.2.2.2.2)))))).getD x.2.1.toNat (Ty.zero tTxn)).2.2.2.1, (((x.2.2.set x.2.1.toNat ((x.2.2.getD x.2.1.toNat (Ty.zero tTxn)).1, ((x.2.2.getD x.2.1.toNat (Ty.zero tTxn)).2.1, ((x.2.2.getD x.2.1.toNat (Ty.zero tTxn)).2.2.1, ((x.2.2.getD x.2.1.toNat (Ty.zero tTxn)).2.2.2.1, (y7.2, (x.2.2.getD x.2.1.toNat (Ty.zero tTxn)).2.2.2.2.2)))))).getD x.2.1.toNat (Ty.zero tTxn)).2.2.2.2.1, (y8.2, ((x.2.2.set x.2.1.toNat ((x.2.2.getD x.2.1.toNat (Ty.zero tTxn)).1, ((x.2.2.getD x.2.1.toNat (Ty.zero tTxn)).2.1, ((x.2.2.getD x.2.1.toNat (Ty.zero tTxn)).2.2.1, ((x.2.2.getD x.2.1.toNat (Ty.zero tTxn)).2.2.2.1, (y7.2, (x.2.2.getD x.2.1.toNat (Ty.zero tTxn)).2.2.2.2.2)))))).getD x.2.1.toNat (Ty.zero tTxn)).2.2.2.2.2.2))))))).getD x.2.1.toNat (Ty.zero tTxn)).2.2.2.2.2.2.2))))))))) (fun z9 =>
                k (z9.1, z9.2.1, z9.2.2))
            else none)
        else none)
    else none

theorem n41n_jp5000011 (x : (Int × Int × (List dTxn))) : Par (n41n_j5000011 x) := by
  unfold n41n_j5000011
  exact (par_ite (c := 0 ≤ x.2.1 ∧ x.2.1 < (x.2.2.length : Int)) ((n39n_p (IntKind.wrap .i64 (x.1 + (1 : Int))) ((x.2.2.getD x.2.1.toNat (Ty.zero tTxn)).2.2.2.2.1)).bind fun y7 => (par_ite (c := 0 ≤ x.2.1 ∧ x.2.1 < ((x.2.2.set x.2.1.toNat ((x.2.2.getD x.2.1.toNat (Ty.zero tTxn)).1, ((x.2.2.getD x.2.1.toNat (Ty.zero tTxn)).2.1, ((x.2.2.getD x.2.1.toNat (Ty.zero tTxn)).2.2.1, ((x.2.2.getD x.2.1.toNat (Ty.zero tTxn)).2.2.2.1, (y7.2, (x.2.2.getD x.2.1.toNat (Ty.zero tTxn)).2.2.2.2.2)))))).length : Int)) ((n43n_p y7.1 (((x.2.2.set x.2.1.toNat ((x.2.2.getD x.2.1.toNat (Ty.zero tTxn)).1, ((x.2.2.getD x.2.1.toNat (Ty.zero tTxn)).2.1, ((x.2.2.getD x.2.1.toNat (Ty.zero tTxn)).2.2.1, ((x.2.2.getD x.2.1.toNat (Ty.zero tTxn)).2.2.2.1, (y7.2, (x.2.2.getD x.2.1.toNat (Ty.zero tTxn)).2.2.2.2.2)))))).getD x.2.1.toNat (Ty.zero tTxn)).2.2.2.2.2.1)).bind fun y8 => (par_ite (c := 0 ≤ x.2.1 ∧ x.2.1 < (((x.2.2.set x.2.1.toNat ((x.2.2.getD x.2.1.toNat (Ty.zero tTxn)).1, ((x.2.2.getD x.2.1.toNat (Ty.zero tTxn)).2.1, ((x.2.2.getD x.2.1.toNat (Ty.zero tTxn)).2.2.1, ((x.2.2.getD x.2.1.toNat (Ty.zero tTxn)).2.2.2.1, (y7.2, (x.2.2.getD x.2.1.toNat (Ty.zero tTxn)).2.2.2.2.2)))))).set x.2.1.toNat (((x.2.2.set x.2.1.toNat ((x.2.2.getD x.2.1.toNat (Ty.zero tTxn)).1, ((x.2.2.getD x.2.1.toNat (Ty.zero tTxn)).2.1, ((x.2.2.getD x.2.1.toNat (Ty.zero tTxn)).2.2.1, ((x.2.2.getD x.2.1.toNat (Ty.zero tTxn)).2.2.2.1, (y7.2, (x.2.2.getD x.2.1.toNat (Ty.zero tTxn)).2.2.2.2.2)))))).getD x.2.1.toNat (Ty.zero tTxn)).1, (((x.2.2.set x.2.1.toNat ((x.2.2.getD x.2.1.toNat (Ty.zero tTxn)).1, ((x.2.2.getD x.2.1.toNat (Ty.zero tTxn)).2.1, ((x.2.2.getD x.2.1.toNat (Ty.zero tTxn)).2.2.1, ((x.2.2.getD x.2.1.toNat (Ty.zero tTxn)).2.2.2.1, (y7.2, (x.2.2.getD x.2.1.toNat (Ty.zero tTxn)).2.2.2.2.2)))))).getD x.2.1.toNat (Ty.zero tTxn)).2.1, (((x.2.2.set x.2.1.toNat ((x.2.2.getD x.2.1.toNat (Ty.zero tTxn)).1, ((x.2.2.getD x.2.1.toNat (Ty.zero tTxn)).2.1, ((x.2.2.getD x.2.1.toNat (Ty.zero tTxn)).2.2.1, ((x.2.2.getD x.2.1.toNat (Ty.zero tTxn)).2.2.2.1, (y7.2, (x.2.2.getD x.2.1.toNat (Ty.zero tTxn)).2.2.2.2.2)))))).getD x.2.1.toNat (Ty.zero tTxn)).2.2.1, (((x.2.2.set x.2.1.toNat ((x.2.2.getD x.2.1.toNat (Ty.zero tTxn)).1, ((x.2.2.getD x.2.1.toNat (Ty.zero tTxn)).2.1, ((x.2.2.getD x.2.1.toNat (Ty.zero tTxn)).2.2.1, ((x.2.2.getD x.2.1.toNat (Ty.zero tTxn)).2.2.2.1, (y7.2, (x.2.2.getD x.2.1.toNat (Ty.zero tTxn)).2.2.2.2.2)))))).getD x.2.1.toNat (Ty.zero tTxn)).2.2.2.1, (((x.2.2.set x.2.1.toNat ((x.2.2.getD x.2.1.toNat (Ty.zero tTxn)).1, ((x.2.2.getD x.2.1.toNat (Ty.zero tTxn)).2.1, ((x.2.2.getD x.2.1.toNat (Ty.zero tTxn)).2.2.1, ((x.2.2.getD x.2.1.toNat (Ty.zero tTxn)).2.2.2.1, (y7.2, (x.2.2.getD x.2.1.toNat (Ty.zero tTxn)).2.2.2.2.2)))))).getD x.2.1.toNat (Ty.zero tTxn)).2.2.2.2.1, (y8.2, ((x.2.2.set x.2.1.toNat ((x.2.2.getD x.2.1.toNat (Ty.zero tTxn)).1, ((x.2.2.getD x.2.1.toNat (Ty.zero tTxn)).2.1, ((x.2.2.getD x.2.1.toNat (Ty.zero tTxn)).2.2.1, ((x.2.2.getD x.2.1.toNat (Ty.zero tTxn)).2.2.2.1, (y7.2, (x.2.2.getD x.2.1.toNat (Ty.zero tTxn)).2.2.2.2.2)))))).getD x.2.1.toNat (Ty.zero tTxn)).2.2.2.2.2.2))))))).length : Int)) ((n41n_jp5000015 (y8.1, x.2.1, (((x.2.2.set x.2.1.toNat ((x.2.2.getD x.2.1.toNat (Ty.zero tTxn)).1, ((x.2.2.getD x.2.1.toNat (Ty.zero tTxn)).2.1, ((x.2.2.getD x.2.1.toNat (Ty.zero tTxn)).2.2.1, ((x.2.2.getD x.2.1.toNat (Ty.zero tTxn)).2.2.2.1, (y7.2, (x.2.2.getD x.2.1.toNat (Ty.zero tTxn)).2.2.2.2.2)))))).set x.2.1.toNat (((x.2.2.set x.2.1.toNat ((x.2.2.getD x.2.1.toNat (Ty.zero tTxn)).1, ((x.2.2.getD x.2.1.toNat (Ty.zero tTxn)).2.1, ((x.2.2.getD x.2.1.toNat (Ty.zero tTxn)).2.2.1, ((x.2.2.getD x.2.1.toNat (Ty.zero tTxn)).2.2.2.1, (y7.2, (x.2.2.getD x.2.1.toNat (Ty.zero tTxn)).2.2.2.2.2)))))).getD x.2.1.toNat (Ty.zero tTxn)).1, (((x.2.2.set x.2.1.toNat ((x.2.2.getD x.2.1.toNat (Ty.zero tTxn)).1, ((x.2.2.getD x.2.1.toNat (Ty.zero tTxn)).2.1, ((x.2.2.getD x.2.1.toNat (Ty.zero tTxn)).2.2.1, ((x.2.2.getD x.2.1.toNat (Ty.zero tTxn)).2.2.2.1, (y7.2, (x.2.2.getD x.2.1.toNat (Ty.zero tTxn)).2.2.2.2.2)))))).getD x.2.1.toNat (Ty.zero tTxn)).2.1, (((x.2.2.set x.2.1.toNat ((x.2.2.getD x.2.1.toNat (Ty.zero tTxn)).1, ((x.2.2.getD x.2.1.toNat (Ty.zero tTxn)).2.1, ((x.2.2.getD x.2.1.toNat (Ty.zero tTxn)).2.2.1, ((x.2.2.getD x.2.1.toNat (Ty.zero tTxn)).2.2.2.1, (y7.2, (x.2.2.getD x.2.1.toNat (Ty.zero tTxn)).2.2.2.2.2)))))).getD x.2.1.toNat (Ty.zero tTxn)).2.2.1, (((x.2.2.set x.2.1.toNat ((x.2.2.getD x.2.1.toNat (Ty.zero tTxn)).1, ((x.2.2.getD x.2.1.toNat (Ty.zero tTxn)).2.1, ((x.2.2.getD x.2.1.toNat (Ty.zero tTxn)).2.2.1, ((x.2.2.getD x.2.1.toNat (Ty.zero tTxn)).2.2.2.1, (y7.2, (x.2.2.getD x.2.1.toNat (Ty.zero tTxn)).2.2.2.2.2)))))).getD x.2.1.toNat (Ty.zero tTxn)).2.2.2.1, (((x.2.2.set x.2.1.toNat ((x.2.2.getD x.2.1.toNat (Ty.zero tTxn)).1, ((x.2.2.getD x.2.1.toNat (Ty.zero tTxn)).2.1, ((x.2.2.getD x.2.1.toNat (Ty.zero tTxn)).2.2.1, ((x.2.2.getD x.2.1.toNat (Ty.zero tTxn)).2.2.2.1, (y7.2, (x.2.2.getD x.2.1.toNat (Ty.zero tTxn)).2.2.2.2.2)))))).getD x.2.1.toNat (Ty.zero tTxn)).2.2.2.2.1, (y8.2, ((x.2.2.set x.2.1.toNat ((x.2.2.getD x.2.1.toNat (Ty.zero tTxn)).1, ((x.2.2.getD x.2.1.toNat (Ty.zero tTxn)).2.1, ((x.2.2.getD x.2.1.toNat (Ty.zero tTxn)).2.2.1, ((x.2.2.getD x.2.1.toNat (Ty.zero tTxn)).2.2.2.1, (y7.2, (x.2.2.getD x.2.1.toNat (Ty.zero tTxn)).2.2.2.2.2)))))).getD x.2.1.toNat (Ty.zero tTxn)).2.2.2.2.2.2))))))).set x.2.1.toNat ((((x.2.2.set x.2.1.toNat ((x.2.2.getD x.2.1.toNat (Ty.zero tTxn)).1, ((x.2.2.getD x.2.1.toNat (Ty.zero tTxn)).2.1, ((x.2.2.getD x.2.1.toNat (Ty.zero tTxn)).2.2.1, ((x.2.2.getD x.2.1.toNat (Ty.zero tTxn)).2.2.2.1, (y7.2, (x.2.2.getD x.2.1.toNat (Ty.zero tTxn)).2.2.2.2.2)))))).set x.2.1.toNat (((x.2.2.set x.2.1.toNat ((x.2.2.getD x.2.1.toNat (Ty.zero tTxn)).1, ((x.2.2.getD x.2.1.toNat (Ty.zero tTxn)).2.1, ((x.2.2.getD x.2.1.toNat (Ty.zero tTxn)).2.2.1, ((x.2.2.getD x.2.1.toNat (Ty.zero tTxn)).2.2.2.1, (y7.2, (x.2.2.getD x.2.1.toNat (Ty.zero tTxn)).2.2.2.2.2)))))).getD x.2.1.toNat (Ty.zero tTxn)).1, (((x.2.2.set x.2.1.toNat ((x.2.2.getD x.2.1.toNat (Ty.zero tTxn)).1, ((x.2.2.getD x.2.1.toNat (Ty.zero tTxn)).2.1, ((x.2.2.getD x.2.1.toNat (Ty.zero tTxn)).2.2.1, ((x.2.2.getD x.2.1.toNat (Ty.zero tTxn)).2.2.2.1, (y7.2, (x.2.2.getD x.2.1.toNat (Ty.zero tTxn)).2.2.2.2.2)))))).getD x.2.1.toNat (Ty.zero tTxn)).2.1, (((x.2.2.set x.2.1.toNat ((x.2.2.getD x.2.1.toNat (Ty.zero tTxn)).1, ((x.2.2.getD x.2.1.toNat (Ty.zero tTxn)).2.1, ((x.2.2.getD x.2.1.toNat (Ty.zero tTxn)).2.2.1, ((x.2.2.getD x.2.1.toNat (Ty.zero tTxn)).2.2.2.1, (y7.2, (x.2.2.getD x.2.1.toNat (Ty.zero tTxn)).2.2.2.2.2)))))).getD x.2.1.toNat (Ty.zero tTxn)).2.2.1, (((x.2.2.set x.2.1.toNat ((x.2.2.getD x.2.1.toNat (Ty.zero tTxn)).1, ((x.2.2.getD x.2.1.toNat (Ty.zero tTxn)).2.1, ((x.2.2.getD x.2.1.toNat (Ty.zero tTxn)).2.2.1, ((x.2.2.getD x.2.1.toNat (Ty.zero tTxn)).2.2.2.1, (y7.2, (x.2.2.getD x.2.1.toNat (Ty.zero tTxn)).2.2.2.2.2)))))).getD x.2.1.toNat (Ty.zero tTxn)).2.2.2.1, (((x.2.2.set x.2.1.toNat ((x.2.2.getD x.2.1.toNat (Ty.zero tTxn)).1, ((x.2.2.getD x.2.1.toNat (Ty.zero tTxn)).2.1, ((x.2.2.getD x.2.1.toNat (Ty.zero tTxn)).2.2.1, ((x.2.2.getD x.2.1.toNat (Ty.zero tTxn)).2.2.2.1, (y7.2, (x.2.2.getD x.2.1.toNat (Ty.zero tTxn)).2.2.2.2.2)))))).getD x.2.1.toNat (Ty.zero tTxn)).2.2.2.2.1, (y8.2, ((x.2.2.set x.2.1.toNat ((x.2.2.getD x.2.1.toNat (Ty.zero tTxn)).1, ((x.2.2.getD x.2.1.toNat (Ty.zero tTxn)).2.1, ((x.2.2.getD x.2.1.toNat (Ty.zero tTxn)).2.2.1, ((x.2.2.getD x.2.1.toNat (Ty.zero tTxn)).2.2.2.1, (y7.2, (x.2.2.getD x.2.1.toNat (Ty.zero tTxn)).2.2.2.2.2)))))).getD x.2.1.toNat (Ty.zero tTxn)).2.2.2.2.2.2))))))).getD x.2.1.toNat (Ty.zero tTxn)).1, ((((x.2.2.set x.2.1.toNat ((x.2.2.getD x.2.1.toNat (Ty.zero tTxn)).1, ((x.2.2.getD x.2.1.toNat (Ty.zero tTxn)).2.1, ((x.2.2.getD x.2.1.toNat (Ty.zero tTxn)).2.2.1, ((x.2.2.getD x.2.1.toNat (Ty.zero tTxn)).2.2.2.1, (y7.2, (x.2.2.getD x.2.1.toNat (Ty.zero tTxn)).2.2.2.2.2)))))).set x.2.1.toNat (((x.2.2.set x.2.1.toNat ((x.2.2.getD x.2.1.toNat (Ty.zero tTxn)).1, ((x.2.2.getD x.2.1.toNat (Ty.zero tTxn)).2.1, ((x.2.2.getD x.2.1.toNat (Ty.zero tTxn)).2.2.1, ((x.2.2.getD x.2.1.toNat (Ty.zero tTxn)).2.2.2.1, (y7.2, (x.2.2.getD x.2.1.toNat (Ty.zero tTxn)).2.2.2.2.2)))))).getD x.2.1.toNat (Ty.zero tTxn)).1, (((x.2.2.set x.2.1.toNat ((x.2.2.getD x.2.1.toNat (Ty.zero tTxn)).1, ((x.2.2.getD x.2.1.toNat (Ty.zero tTxn)).2.1, ((x.2.2.getD x.2.1.toNat (Ty.zero tTxn)).2.2.1, ((x.2.2.getD x.2.1.toNat (Ty.zero tTxn)).2.2.2.1, (y7.2, (x.2.2.getD x.2.1.toNat (Ty.zero tTxn)).2.2.2.2.2)))))).getD x.2.1.toNat (Ty.zero tTxn)).2.1, (((x.2.2.set x.2.1.toNat ((x.2.2.getD x.2.1.toNat (Ty.zero tTxn)).1, ((x.2.2.getD x.2.1.toNat (Ty.zero tTxn)).2.1, ((x.2.2.getD x.2.1.toNat (Ty.zero tTxn)).2.2.1, ((x.2.2.getD x.2.1.toNat (Ty.zero tTxn)).2.2.2.1, (y7.2, (x.2.2.getD x.2.1.toNat (Ty.zero tTxn)).2.2.2.2.2)))))).getD x.2.1.toNat (Ty.zero tTxn)).2.2.1, (((x.2.2.set x.2.1.toNat ((x.2.2.getD x.2.1.toNat (Ty.zero tTxn)).1, ((x.2.2.getD x.2.1.toNat (Ty.zero tTxn)).2.1, ((x.2.2.getD x.2.1.toNat (Ty.zero tTxn)).2.2.1, ((x.2.2.getD x.2.1.toNat (Ty.zero tTxn)).2.2.2.1, (y7.2, (x.2.2.getD x.2.1.toNat (Ty.zero tTxn)).2.2.2.2.2)))))).getD x.2.1.toNat (Ty.zero tTxn)).2.2.2.1, (((x.2.2.set x.2.1.toNat ((x.2.2.getD x.2.1.toNat (Ty.zero tTxn)).1, ((x.2.2.getD x.2.1.toNat (Ty.zero tTxn)).2.1, ((x.2.2.getD x.2.1.toNat (Ty.zero tTxn)).2.2.1, ((x.2.2.getD x.2.1.toNat (Ty.zero tTxn)).2.2.2.1, (y7.2, (x.2.2.getD x.2.1.toNat (Ty.zero tTxn)).2.2.2.2.2)))))).getD x.2.1.toNat (Ty.zero tTxn)).2.2.2.2.1, (y8.2, ((x.2.2.set x.2.1.toNat ((x.2.2.getD x.2.1.toNat (Ty.zero tTxn)).1, ((x.2.2.getD x.2.1.toNat (Ty.zero tTxn)).2.1, ((x.2.2.getD x.2.1.toNat (Ty.zero tTxn)).2.2.1, ((x.2.2.getD x.2.1.toNat (Ty.zero tTxn)).2.2.2.1, (y7.2, (x.2.2.getD x.2.1.toNat (Ty.zero tTxn)).2.2.2.2.2)))))).getD x.2.1.toNat (Ty.zero tTxn)).2.2.2.2.2.2))))))).getD x.2.1.toNat (Ty.zero tTxn)).2.1, ((((x.2.2.set x.2.1.toNat ((x.2.2.getD x.2.1.toNat (Ty.zero tTxn)).1, ((x.2.2.getD x.2.1.toNat (Ty.zero tTxn)).2.1, ((x.2.2.getD x.2.1.toNat (Ty.zero tTxn)).2.2.1, ((x.2.2.getD x.2.1.toNat (Ty.zero tTxn)).2.2.2.1, (y7.2, (x.2.2.getD x.2.1.toNat (Ty.zero tTxn)).2.2.2.2.2)))))).set x.2.1.toNat (((x.2.2.set x.2.1.toNat ((x.2.2.getD x.2.1.toNat (Ty.zero tTxn)).1, ((x.2.2.getD x.2.1.toNat (Ty.zero tTxn)).2.1, ((x.2.2.getD x.2.1.toNat (Ty.zero tTxn)).2.2.1, ((x.2.2.getD x.2.1.toNat (Ty.zero tTxn)).2.2.2.1, (y7.2, (x.2.2.getD x.2.1.toNat (Ty.zero tTxn)).2.2.2.2.2)))))).getD x.2.1.toNat (Ty.zero tTxn)).1, (((x.2.2.set x.2.1.toNat ((x.2.2.getD x.2.1.toNat (Ty.zero tTxn)).1, ((x.2.2.getD x.2.1.toNat (Ty.zero tTxn)).2.1, ((x.2.2.getD x.2.1.toNat (Ty.zero tTxn)).2.2.1, ((x.2.2.getD x.2.1.toNat (Ty.zero tTxn)).2.2.2.1, (y7.2, (x.2.2.getD x.2.1.toNat (Ty.zero tTxn)).2.2.2.2.2)))))).getD x.2.1.toNat (Ty.zero tTxn)).2.1, (((x.2.2.set x.2.1.toNat ((x.2.2.getD x.2.1.toNat (Ty.zero tTxn)).1, ((x.2.2.getD x.2.1.toNat (Ty.zero tTxn)).2.1, ((x.2.2.getD x.2.1.toNat (Ty.zero tTxn)).2.2.1, ((x.2.2.getD x.2.1.toNat (Ty.zero tTxn)).2.2.2.1, (y7.2, (x.2.2.getD x.2.1.toNat (Ty.zero tTxn)).2.2.2.2.2)))))).getD x.2.1.toNat (Ty.zero tTxn)).2.2.1, (((x.2.2.set x.2.1.toNat ((x.2.2.getD x.2.1.toNat (Ty.zero tTxn)).1, ((x.2.2.getD x.2.1.toNat (Ty.zero tTxn)).2.1, ((x.2.2.getD x.2.1.toNat (Ty.zero tTxn)).2.2.1, ((x.2.2.getD x.2.1.toNat (Ty.zero tTxn)).2.2.2.1, (y7.2, (x.2.2.getD x.2.1.toNat (Ty.zero tTxn)).2.2.2.2.2)))))).getD x.2.1.toNat (Ty.zero tTxn)).2.2.2.1, (((x.2.2.set x.2.1.toNat ((x.2.2.getD x.2.1.toNat (Ty.zero tTxn)).1, ((x.2.2.getD x.2.1.toNat (Ty.zero tTxn)).2.1, ((x.2.2.getD x.2.1.toNat (Ty.zero tTxn)).2.2.1, ((x.2.2.getD x.2.1.toNat (Ty.zero tTxn)).2.2.2.1, (y7.2, (x.2.2.getD x.2.1.toNat (Ty.zero tTxn)).2.2.2.2.2)))))).getD x.2.1.toNat (Ty.zero tTxn)).2.2.2.2.1, (y8.2, ((x.2.2.set x.2.1.toNat ((x.2.2.getD x.2.1.toNat (Ty.zero tTxn)).1, ((x.2.2.getD x.2.1.toNat (Ty.zero tTxn)).2.1, ((x.2.2.getD x.2.1.toNat (Ty.zero tTxn)).2.2.1, ((x.2.2.getD x.2.1.toNat (Ty.zero tTxn)).2.2.2.1, (y7.2, (x.2.2.getD x.2.1.toNat (Ty.zero tTxn)).2.2.2.2.2)))))).getD x.2.1.toNat (Ty.zero tTxn)).2.2.2.2.2.2))))))).getD x.2.1.toNat (Ty.zero tTxn)).2.2.1, ((((x.2.2.set x.2.1.toNat ((x.2.2.getD x.2.1.toNat (Ty.zero tTxn)).1, ((x.2.2.getD x.2.1.toNat (Ty.zero tTxn)).2.1, ((x.2.2.getD x.2.1.toNat (Ty.zero tTxn)).2.2.1, ((x.2.2.getD x.2.1.toNat (Ty.zero tTxn)).2.2.2.1, (y7.2, (x.2.2.getD x.2.1.toNat (Ty.zero tTxn)).2.2.2.2.2)))))).set x.2.1.toNat (((x.2.2.set x.2.1.toNat ((x.2.2.getD x.2.1.toNat (Ty.zero tTxn)).1, ((x.2.2.getD x.2.1.toNat (Ty.zero tTxn)).2.1, ((x.2.2.getD x.2.1.toNat (Ty.zero tTxn)).2.2.1, ((x.2.2.getD x.2.1.toNat (Ty.zero tTxn)).2.2.2.1, (y7.2, (x.2.2.getD x.2.1.toNat (Ty.zero tTxn)).2.2.2.2.2)))))).getD x.2.1.toNat (Ty.zero tTxn)).1, (((x.2.2.set x.2.1.toNat ((x.2.2.getD x.2.1.toNat (Ty.zero tTxn)).1, ((x.2.2.getD x.2.1.toNat (Ty.zero tTxn)).2.1, ((x.2.2.getD x.2.1.toNat (Ty.zero tTxn)).2.2.1, ((x.2.2.getD x.2.1.toNat (Ty.zero tTxn)).2.2.2.1, (y7.2, (x.2.2.getD x.2.1.toNat (Ty.zero tTxn)).2.2.2.2.2)))))).getD x.2.1.toNat (Ty.zero tTxn)).2.1, (((x.2.2.set x.2.1.toNat ((x.2.2.getD x.2.1.toNat (Ty.zero tTxn)).1, ((x.2.2.getD x.2.1.toNat (Ty.zero tTxn)).2.1, ((x.2.2.getD x.2.1.toNat (Ty.zero tTxn)).2.2.1, ((x.2.2.getD x.2.1.toNat (Ty.zero tTxn)).2.2.2.1, (y7.2, (x.2.2.getD x.2.1.toNat (Ty.zero tTxn)).2.2.2.2.2)))))).getD x.2.1.toNat (Ty.zero tTxn)).2.2.1, (((x.2.2.set x.2.1.toNat ((x.2.2.getD x.2.1.toNat (Ty.zero tTxn)).1, ((x.2.2.getD x.2.1.toNat (Ty.zero tTxn)).2.1, ((x.2.2.getD x.2.1.toNat (Ty.zero tTxn)).2.2.1, ((x.2.2.getD x.2.1.toNat (Ty.zero tTxn)).2.2.2.1, (y7.2, (x.2.2.getD x.2.1.toNat (Ty.zero tTxn)).2.2.2.2.2)))))).getD x.2.1.toNat (Ty.zero tTxn)).2.2.2.1, (((x.2.2.set x.2.1.toNat ((x.2.2.getD x.2.1.toNat (Ty.zero tTxn)).1, ((x.2.2.getD x.2.1.toNat (Ty.zero tTxn)).2.1, ((x.2.2.getD x.2.1.toNat (Ty.zero tTxn)).2.2.1, ((x.2.2.getD x.2.1.toNat (Ty.zero tTxn)).2.2.2.1, (y7.2, (x.2.2.getD x.2.1.toNat (Ty.zero tTxn)).2.2.2.2.2)))))).getD x.2.1.toNat (Ty.zero tTxn)).2.2.2.2.1, (y8.2, ((x.2.2.set x.2.1.toNat ((x.2.2.getD x.2.1.toNat (Ty.zero tTxn)).1, ((x.2.2.getD x.2.1.toNat (Ty.zero tTxn)).2.1, ((x.2.2.getD x.2.1.toNat (Ty.zero tTxn)).2.2.1, ((x.2.2.getD x.2.1.toNat (Ty.zero tTxn)).2.2.2.1, (y7.2, (x.2.2.getD x.2.1.toNat (Ty.zero tTxn)).2.2.2.2.2)))))).getD x.2.1.toNat (Ty.zero tTxn)).2.2.2.2.2.2))))))).getD x.2.1.toNat (Ty.zero tTxn)).2.2.2.1, ((((x.2.2.set x.2.1.toNat ((x.2.2.getD x.2.1.toNat (Ty.zero tTxn)).1, ((x.2.2.getD x.2.1.toNat (Ty.zero tTxn)).2.1, ((x.2.2.getD x.2.1.toNat (Ty.zero tTxn)).2.2.1, ((x.2.2.getD x.2.1.toNat (Ty.zero tTxn)).2.2.2.1, (y7.2, (x.2.2.getD x.2.1.toNat (Ty.zero tTxn)).2.2.2.2.2)))))).set x.2.1.toNat (((x.2.2.set x.2.1.toNat ((x.2.2.getD x.2.1.toNat (Ty.zero tTxn)).1, ((x.2.2.getD x.2.1.toNat (Ty.zero tTxn)).2.1, ((x.2.2.getD x.2.1.toNat (Ty.zero tTxn)).2.2.1, ((x.2.2.getD x.2.1.toNat (Ty.zero tTxn)).2.2.2.1, (y7.2, (x.2.2.getD x.2.1.toNat (Ty.zero tTxn)).2.2.2.2.2)))))).getD x.2.1.toNat (Ty.zero tTxn)).1, (((x.2.2.set x.2.1.toNat ((x.2.2.getD x.2.1.toNat (Ty.zero tTxn)).1, ((x.2.2.getD x.2.1.toNat (Ty.zero tTxn)).2.1, ((x.2.2.getD x.2.1.toNat (Ty.zero tTxn)).2.2.1, ((x.2.2.getD x.2.1.toNat (Ty.zero tTxn)).2.2.2.1, (y7.2, (x.2.2.getD x.2.1.toNat (Ty.zero tTxn)).2.2.2.2.2)))))).getD x.2.1.toNat (Ty.zero tTxn)).2.1, (((x.2.2.set x.2.1.toNat ((x.2.2.getD x.2.1.toNat (Ty.zero tTxn)).1, ((x.2.2.getD x.2.1.toNat (Ty.zero tTxn)).2.1, ((x.2.2.getD x.2.1.toNat (Ty.zero tTxn)).2.2.1, ((x.2.2.getD x.2.1.toNat (Ty.zero tTxn)).2.2.2.1, (y7.2, (x.2.2.getD x.2.1.toNat (Ty.zero tTxn)).2.2.2.2.2)))))).getD x.2.1.toNat (Ty.zero tTxn)).2.2.1, (((x.2.2.set x.2.1.toNat ((x.2.2.getD x.2.1.toNat (Ty.zero tTxn)).1, ((x.2.2.getD x.2.1.toNat (Ty.zero tTxn)).2.1, ((x.2.2.getD x.2.1.toNat (Ty.zero tTxn)).2.2.1, ((x.2.2.getD x.2.1.toNat (Ty.zero tTxn)).2.2.2.1, (y7.2, (x.2.2.getD x.2.1.toNat (Ty.zero tTxn)).2.2.2.2.2)))))).getD x.2.1.toNat (Ty.zero tTxn)).2.2.2.1, (((x.2.2.set x.2.1.toNat ((x.2.2.getD x.2.1.toNat (Ty.zero tTxn)).1, ((x.2.2.getD x.2.1.toNat (Ty.zero tTxn)).2.1, ((x.2.2.getD x.2.1.toNat (Ty.zero tTxn)).2.2.1, ((x.2.2.getD x.2.1.toNat (Ty.zero tTxn)).2.2.2.1, (y7.2, (x.2.2.getD x.2.1.toNat (Ty.zero tTxn)).2.2.2.2.2)))))).getD x.2.1.toNat (Ty.zero tTxn)).2.2.2.2.1, (y8.2, ((x.2.2.set x.2.1.toNat ((x.2.2.getD x.2.1.toNat (Ty.zero tTxn)).1, ((x.2.2.getD x.2.1.toNat (Ty.zero tTxn)).2.1, ((x.2.2.getD x.2.1.toNat (Ty.zero tTxn)).2.2.1, ((x.2.2.getD x.2.1.toNat (Ty.zero tTxn)).2.2.2.1, (y7.2, (x.2.2.getD x.2.1.toNat (Ty.zero tTxn)).2.2.2.2.2)))))).getD x.2.1.toNat (Ty.zero tTxn)).2.2.2.2.2.2))))))).getD x.2.1.toNat (Ty.zero tTxn)).2.2.2.2.1, ((((x.2.2.set x.2.1.toNat ((x.2.2.getD x.2.1.toNat (Ty.zero tTxn)).1, ((x.2.2.getD x.2.1.toNat (Ty.zero tTxn)).2.1, ((x.2.2.getD x.2.1.toNat (Ty.zero tTxn)).2.2.1, ((x.2.2.getD x.2.1.toNat (Ty.zero tTxn)).2.2.2.1, (y7.2, (x.2.2.getD x.2.1.toNat (Ty.zero tTxn)).2.2.2.2.2)))))).set x.2.1.toNat (((x.2.2.set x.2.1.toNat ((x.2.2.getD x.2.1.toNat (Ty.zero tTxn)).1, ((x.2.2.getD x.2.1.toNat (Ty.zero tTxn)).2.1, ((x.2.2.getD x.2.1.toNat (Ty.zero tTxn)).2.2.1, ((x.2.2.getD x.2.1.toNat (Ty.zero tTxn)).2.2.2.1, (y7.2, (x.2.2.getD x.2.1.toNat (Ty.zero tTxn)).2.2.2.2.2)))))).getD x.2.1.toNat (Ty.zero tTxn)).1, (((x.2.2.set x.2.1.toNat ((x.2.2.getD x.2.1.toNat (Ty.zero tTxn)).1, ((x.2.2.getD x.2.1.toNat (Ty.zero tTxn)).2.1, ((x.2.2.getD x.2.1.toNat (Ty.zero tTxn)).2.2.1, ((x.2.2.getD x.2.1.toNat (Ty.zero tTxn)).2.2.2.1, (y7.2, (x.2.2.getD x.2.1.toNat (Ty.zero tTxn)).2.2.2.2.2)))))).getD x.2.1.toNat (Ty.zero tTxn)).2.1, (((x.2.2.set x.2.1.toNat ((x.2.2.getD x.2.1.toNat (Ty.zero tTxn)).1, ((x.2.2.getD x.2.1.toNat (Ty.zero tTxn)).2.1, ((x.2.2.getD x.2.1.toNat (Ty.zero tTxn)).2.2.1, ((x.2.2.getD x.2.1.toNat (Ty.zero tTxn)).2.2.2.1, (y7.2, (x.2.2.getD x.2.1.toNat (Ty.zero tTxn)).2.2.2.2.2)))))).getD x.2.1.toNat (Ty.zero tTxn)).2.2.1, (((x.2.2.set x.2.1.toNat ((x.2.2.getD x.2.1.toNat (Ty.zero tTxn)).1, ((x.2.2.getD x.2.1.toNat (Ty.zero tTxn)).2.1, ((x.2.2.getD x.2.1.toNat (Ty.zero tTxn)).2.2.1, ((x.2.2.getD x.2.1.toNat (Ty.zero tTxn)).2.2.2.1, (y7.2, (x.2.2.getD x.2.1.toNat (Ty.zero tTxn)).2.2.2.2.2)))))).getD x.2.1.toNat (Ty.zero tTxn)).2.2.2.1, (((x.2.2.set x.2.1.toNat ((x.2.2.getD x.2.1.toNat (Ty.zero tTxn)).1, ((x.2.2.getD x.2.1.toNat (Ty.zero tTxn)).2.1, ((x.2.2.getD x.2.1.toNat (Ty.zero tTxn)).2.2.1, ((x.2.2.getD x.2.1.toNat (Ty.zero tTxn)).2.2.2.1, (y7.2, (x.2.2.getD x.2.1.toNat (Ty.zero tTxn)).2.2.2.2.2)))))).getD x.2.1.toNat (Ty.zero tTxn)).2.2.2.2.1, (y8.2, ((x.2.2.set x.2.1.toNat ((x.2.2.getD x.2.1.toNat (Ty.zero tTxn)).1, ((x.2.2.getD x.2.1.toNat (Ty.zero tTxn)).2.1, ((x.2.2.getD x.2.1.toNat (Ty.zero tTxn)).2.2.1, ((x.2.2.getD x.2.1.toNat (Ty.zero tTxn)).2.2.2.1, (y7.2, (x.2.2.getD x.2.1.toNat (Ty.zero tTxn)).2.2.2.2.2)))))).getD x.2.1.toNat (Ty.zero tTxn)).2.2.2.2.2.2))))))).getD x.2.1.toNat (Ty.zero tTxn)).2.2.2.2.2.1, (((y8.1.tmod (3 : Int)) == (0 : Int)), (((x.2.2.set x.2.1.toNat ((x.2.2.getD x.2.1.toNat (Ty.zero tTxn)).1, ((x.2.2.getD x.2.1.toNat (Ty.zero tTxn)).2.1, ((x.2.2.getD x.2.1.toNat (Ty.zero tTxn)).2.2.1, ((x.2.2.getD x.2.1.toNat (Ty.zero tTxn)).2.2.2.1, (y7.2, (x.2.2.getD x.2.1.toNat (Ty.zero tTxn)).2.2.2.2.2)))))).set x.2.1.toNat (((x.2.2.set x.2.1.toNat ((x.2.2.getD x.2.1.toNat (Ty.zero tTxn)).1, ((x.2.2.getD x.2.1.toNat (Ty.zero tTxn)).2.1, ((x.2.2.getD x.2.1.toNat (Ty.zero tTxn)).2.2.1, ((x.2.2.getD x.2.1.toNat (Ty.zero tTxn)).2.2.2.1, (y7.2, (x.2.2.getD x.2.1.toNat (Ty.zero tTxn)).2.2.2.2.2)))))).getD x.2.1.toNat (Ty.zero tTxn)).1, (((x.2.2.set x.2.1.toNat ((x.2.2.getD x.2.1.toNat (Ty.zero tTxn)).1, ((x.2.2.getD x.2.1.toNat (Ty.zero tTxn)).2.1, ((x.2.2.getD x.2.1.toNat (Ty.zero tTxn)).2.2.1, ((x.2.2.getD x.2.1.toNat (Ty.zero tTxn)).2.2.2.1, (y7.2, (x.2.2.getD x.2.1.toNat (Ty.zero tTxn)).2.2.2.2.2)))))).getD x.2.1.toNat (Ty.zero tTxn)).2.1, (((x.2.2.set x.2.1.toNat ((x.2.2.getD x.2.1.toNat (Ty.zero tTxn)).1, ((x.2.2.getD x.2.1.toNat (Ty.zero tTxn)).2.1, ((x.2.2.getD x.2.1.toNat (Ty.zero tTxn)).2.2.1, ((x.2.2.getD x.2.1.toNat (Ty.zero tTxn)).2.2.2.1, (y7.2, (x.2.2.getD x.2.1.toNat (Ty.zero tTxn)).2.2.2.2.2)))))).getD x.2.1.toNat (Ty.zero tTxn)).2.2.1, (((x.2.2.set x.2.1.toNat ((x.2.2.getD x.2.1.toNat (Ty.zero tTxn)).1, ((x.2.2.getD x.2.1.toNat (Ty.zero tTxn)).2.1, ((x.2.2.getD x.2.1.toNat (Ty.zero tTxn)).2.2.1, ((x.2.2.getD x.2.1.toNat (Ty.zero tTxn)).2.2.2.1, (y7.2, (x.2.2.getD x.2.1.toNat (Ty.zero tTxn)).2.2.2.2.2)))))).getD x.2.1.toNat (Ty.zero tTxn)).2.2.2.1, (((x.2.2.set x.2.1.toNat ((x.2.2.getD x.2.1.toNat (Ty.zero tTxn)).1, ((x.2.2.getD x.2.1.toNat (Ty.zero tTxn)).2.1, ((x.2.2.getD x.2.1.toNat (Ty.zero tTxn)).2.2.1, ((x.2.2.getD x.2.1.toNat (Ty.zero tTxn)).2.2.2.1, (y7.2, (x.2.2.getD x.2.1.toNat (Ty.zero tTxn)).2.2.2.2.2)))))).getD x.2.1.toNat (Ty.zero tTxn)).2.2.2.2.1, (y8.2, ((x.2.2.set x.2.1.toNat ((x.2.2.getD x.2.1.toNat (Ty.zero tTxn)).1, ((x.2.2.getD x.2.1.toNat (Ty.zero tTxn)).2.1, ((x.2.2.getD x.2.1.toNat (Ty.zero tTxn)).2.2.1, ((x.2.2.getD x.2.1.toNat (Ty.zero tTxn)).2.2.2.1, (y7.2, (x.2.2.getD x.2.1.toNat (Ty.zero tTxn)).2.2.2.2.2)))))).getD x.2.1.toNat (Ty.zero tTxn)).2.2.2.2.2.2))))))).getD x.2.1.toNat (Ty.zero tTxn)).2.2.2.2.2.2.2)))))))))).bind fun z9 => (par_ret _)) par_none)) par_none)) par_none)

def n41n_j5000009 (x : (Int × Int × (List dTxn))) (k : (Int × Int × (List dTxn)) → Option Res) : Option Res :=
    if 0 ≤ x.2.1 ∧ x.2.1 < (x.2.2.length : Int) then
      n41n_j5000011 ((IntKind.wrap .i64 (x.1 + (1 : Int))), x.2.1, (x.2.2.set x.2.1.toNat ((x.2.2.getD x.2.1.toNat (Ty.zero tTxn)).1, ((x.2.2.getD x.2.1.toNat (Ty.zero tTxn)).2.1, ((x.2.2.getD x.2.1.toNat (Ty.zero tTxn)).2.2.1, ((IntKind.wrap .i64 (x.1 + (1 : Int))), (x.2.2.getD x.2.1.toNat (Ty.zero tTxn)).2.2.2.2)))))) (fun z6 =>
        k (z6.1, z6.2.1, z6.2.2))
    else none

theorem n41n_jp5000009 (x : (Int × Int × (List dTxn))) : Par (n41n_j5000009 x) := by
  unfold n41n_j5000009
  exact (par_ite (c := 0 ≤ x.2.1 ∧ x.2.1 < (x.2.2.length : Int)) ((n41n_jp5000011 ((IntKind.wrap .i64 (x.1 + (1 : Int))), x.2.1, (x.2.2.set x.2.1.toNat ((x.2.2.getD x.2.1.toNat (Ty.zero tTxn)).1, ((x.2.2.getD x.2.1.toNat (Ty.zero tTxn)).2.1, ((x.2.2.getD x.2.1.toNat (Ty.zero tTxn)).2.2.1, ((IntKind.wrap .i64 (x.1 + (1 : Int))), (x.2.2.getD x.2.1.toNat (Ty.zero tTxn)).2.2.2.2))))))).bind fun z6 => (par_ret _)) par_none)

def n41n_j5000007 (x : (Int × Int × (List dTxn))) (k : (Int × Int × (List dTxn)) → Option Res) : Option Res :=
    if 0 ≤ x.2.1 ∧ x.2.1 < (x.2.2.length : Int) then
      n41n_j5000009 ((IntKind.wrap .i64 (x.1 + (1 : Int))), x.2.1, (x.2.2.set x.2.1.toNat ((x.2.2.getD x.2.1.toNat (Ty.zero tTxn)).1, ((x.2.2.getD x.2.1.toNat (Ty.zero tTxn)).2.1, ((IntKind.wrap .i64 (x.1 + (1 : Int))), (x.2.2.getD x.2.1.toNat (Ty.zero tTxn)).2.2.2))))) (fun z5 =>
        k (z5.1, z5.2.1, z5.2.2))
    else none

theorem n41n_jp5000007 (x : (Int × Int × (List dTxn))) : Par (n41n_j5000007 x) := by
  unfold n41n_j5000007
  exact (par_ite (c := 0 ≤ x.2.1 ∧ x.2.1 < (x.2.2.length : Int)) ((n41n_jp5000009 ((IntKind.wrap .i64 (x.1 + (1 : Int))), x.2.1, (x.2.2.set x.2.1.toNat ((x.2.2.getD x.2.1.toNat (Ty.zero tTxn)).1, ((x.2.2.getD x.2.1.toNat (Ty.zero tTxn)).2.1, ((IntKind.wrap .i64 (x.1 + (1 : Int))), (x.2.2.getD x.2.1.toNat (Ty.zero tTxn)).2.2.2)))))).bind fun z5 => (par_ret _)) par_none)

def n41n_j5000005 (x : (Int × Int × (List dTxn))) (k : (Int × Int × (List dTxn)) → Option Res) : Option Res :=
    if 0 ≤ x.2.1 ∧ x.2.1 < (x.2.2.length : Int) then
      n41n_j5000007 ((IntKind.wrap .i64 (x.1 + (1 : Int))), x.2.1, (x.2.2.set x.2.1.toNat ((x.2.2.getD x.2.1.toNat (Ty.zero tTxn)).1, ((IntKind.wrap .i64 (x.1 + (1 : Int))), (x.2.2.getD x.2.1.toNat (Ty.zero tTxn)).2.2)))) (fun z4 =>
        k (z4.1, z4.2.1, z4.2.2))
    else none

theorem n41n_jp5000005 (x : (Int × Int × (List dTxn))) : Par (n41n_j5000005 x) := by
  unfold n41n_j5000005
  exact (par_ite (c := 0 ≤ x.2.1 ∧ x.2.1 < (x.2.2.length : Int)) ((n41n_jp5000007 ((IntKind.wrap .i64 (x.1 + (1 : Int))), x.2.1, (x.2.2.set x.2.1.toNat ((x.2.2.getD x.2.1.toNat (Ty.zero tTxn)).1, ((IntKind.wrap .i64 (x.1 + (1 : Int))), (x.2.2.getD x.2.1.toNat (Ty.zero tTxn)).2.2))))).bind fun z4 => (par_ret _)) par_none)

def n41n_b0 (x : (Int × Int × (List dTxn))) (k : (Int × Int × (List dTxn)) ⊕ (Int × Int × (List dTxn)) → Option Res) : Option Res :=
    bif (decide (x.2.1 < (x.2.2.length : Int))) then
      if 0 ≤ x.2.1 ∧ x.2.1 < (x.2.2.length : Int) then
        n41n_j5000005 (x.1, x.2.1, (x.2.2.set x.2.1.toNat (x.1, (x.2.2.getD x.2.1.toNat (Ty.zero tTxn)).2))) (fun z2 =>
          n41n_j5000003 (z2.1, z2.2.1, z2.2.2) (fun z3 =>
            k (.inl (z3.1, z3.2.1, z3.2.2))))
      else none
    else
      k (.inr (x.1, x.2.1, x.2.2))

theorem n41n_bp0 (x : (Int × Int × (List dTxn))) : Par (n41n_b0 x) := by
  unfold n41n_b0
  exact (par_bif (par_ite (c := 0 ≤ x.2.1 ∧ x.2.1 < (x.2.2.length : Int)) ((n41n_jp5000005 (x.1, x.2.1, (x.2.2.set x.2.1.toNat (x.1, (x.2.2.getD x.2.1.toNat (Ty.zero tTxn)).2)))).bind fun z2 => ((n41n_jp5000003 (z2.1, z2.2.1, z2.2.2)).bind fun z3 => (par_ret _))) par_none) (par_ret _))

def n41n_d (a0 : Int) (a1 : (List dTxn)) (k : (Int × (List dTxn)) → Option Res) : Option Res :=
  loopK n41n_b0 Fuel (a0, (0 : Int), a1) (fun z1 =>
    k (z1.1, z1.2.2))

def n41n_k := shut n41n_d
theorem n41n_e : n41n_k = n41n_d := shut_eq _

theorem n41n_p (a0 : Int) (a1 : (List dTxn)) : Par (n41n_k a0 a1) := by
  rw [n41n_e]
  unfold n41n_d
  exact ((par_loop n41n_bp0 Fuel (a0, (0 : Int), a1)).bind fun z1 => (par_ret _))

def n37n_d (a0 : Int) (a1 : Int) (a2 : Int) (a3 : (List dVersion)) (a4 : (List dTxn)) (a5 : (List dTxn)) (k : q32T → Option Res) : Option Res :=
  n42n_k a2 a3 (fun y1 =>
    n41n_k y1.1 a4 (fun y2 =>
      n41n_k y2.1 a5 (fun y3 =>
        k (y3.1, y1.2, y2.2, y3.2))))

def n37n_k := shut n37n_d
theorem n37n_e : n37n_k = n37n_d := shut_eq _

theorem n37n_p (a0 : Int) (a1 : Int) (a2 : Int) (a3 : (List dVersion)) (a4 : (List dTxn)) (a5 : (List dTxn)) : Par (n37n_k a0 a1 a2 a3 a4 a5) := by
  rw [n37n_e]
  unfold n37n_d
  exact ((n42n_p a2 a3).bind fun y1 => ((n41n_p y1.1 a4).bind fun y2 => ((n41n_p y2.1 a5).bind fun y3 => (par_ret _))))

def n38n_d (a0 : Int) (a1 : Int) (a2 : Int) (a3 : (List dVersion)) (a4 : (List dTxn)) (a5 : (List dTxn)) (a6 : (List dTxn)) (k : q31T → Option Res) : Option Res :=
  n37n_k a0 a1 a2 a3 a4 a5 (fun y1 =>
    n41n_k y1.1 a6 (fun y2 =>
      k (y2.1, y1.2.1, y1.2.2.1, y1.2.2.2, y2.2)))

def n38n_k := shut n38n_d
theorem n38n_e : n38n_k = n38n_d := shut_eq _

theorem n38n_p (a0 : Int) (a1 : Int) (a2 : Int) (a3 : (List dVersion)) (a4 : (List dTxn)) (a5 : (List dTxn)) (a6 : (List dTxn)) : Par (n38n_k a0 a1 a2 a3 a4 a5 a6) := by
  rw [n38n_e]
  unfold n38n_d
  exact ((n37n_p a0 a1 a2 a3 a4 a5).bind fun y1 => ((n41n_p y1.1 a6).bind fun y2 => (par_ret _)))

def n35n_b0 (x : q14T) (k : q14T ⊕ (q14T ⊕ q14T) → Option Res) : Option Res :=
    bif (decide (x.2.2.2 < (x.1.length : Int))) then
      if 0 ≤ x.2.2.2 ∧ x.2.2.2 < (x.1.length : Int) then
        n40n_k x.2.1 (fun y3 =>
          bif (!(strEq ((rd (Ty.zero tVersion) x.1 x.2.2.2).1) y3)) then
            k (.inr (.inl (x.1, x.2.1, (-1 : Int), x.2.2.2)))
          else
            if 0 ≤ x.2.2.2 ∧ x.2.2.2 < (x.1.length : Int) then
              n40n_k (IntKind.wrap .i64 (x.2.1 + (1 : Int))) (fun y4 =>
                bif (!(strEq ((rd (Ty.zero tVersion) x.1 x.2.2.2).2.1) y4)) then
                  k (.inr (.inl (x.1, (IntKind.wrap .i64 (x.2.1 + (1 : Int))), (-1 : Int), x.2.2.2)))
                else
                  if 0 ≤ x.2.2.2 ∧ x.2.2.2 < (x.1.length : Int) then
                    bif (!((rd (Ty.zero tVersion) x.1 x.2.2.2).2.2.1 == (((IntKind.wrap .i64 ((IntKind.wrap .i64 (x.2.1 + (1 : Int))) + (1 : Int))).tmod (3 : Int)) == (0 : Int)))) then
                      k (.inr (.inl (x.1, (IntKind.wrap .i64 ((IntKind.wrap .i64 (x.2.1 + (1 : Int))) + (1 : Int))), (-1 : Int), x.2.2.2)))
                    else
                      if 0 ≤ x.2.2.2 ∧ x.2.2.2 < (x.1.length : Int) then
                        bif ((rd (Ty.zero tVersion) x.1 x.2.2.2).2.2.2 != (IntKind.wrap .i64 ((IntKind.wrap .i64 ((IntKind.wrap .i64 (x.2.1 + (1 : Int))) + (1 : Int))) + (1 : Int)))) then
                          k (.inr (.inl (x.1, (IntKind.wrap .i64 ((IntKind.wrap .i64 ((IntKind.wrap .i64 (x.2.1 + (1 : Int))) + (1 : Int))) + (1 : Int))), (-1 : Int), x.2.2.2)))
                        else
                          k (.inl (x.1, (IntKind.wrap .i64 ((IntKind.wrap .i64 ((IntKind.wrap .i64 ((IntKind.wrap .i64 (x.2.1 + (1 : Int))) + (1 : Int))) + (1 : Int))) + (1 : Int))), x.2.2.1, (IntKind.wrap .i64 (x.2.2.2 + (1 : Int)))))
                      else none
                  else none)
            else none)
      else none
    else
      k (.inr (.inr (x.1, x.2.1, x.2.2.1, x.2.2.2)))

theorem n35n_bp0 (x : q14T) : Par (n35n_b0 x) := by
  unfold n35n_b0
  exact (par_bif (par_ite (c := 0 ≤ x.2.2.2 ∧ x.2.2.2 < (x.1.length : Int)) ((n40n_p x.2.1).bind fun y3 => (par_bif (par_ret _) (par_ite (c := 0 ≤ x.2.2.2 ∧ x.2.2.2 < (x.1.length : Int)) ((n40n_p (IntKind.wrap .i64 (x.2.1 + (1 : Int)))).bind fun y4 => (par_bif (par_ret _) (par_ite (c := 0 ≤ x.2.2.2 ∧ x.2.2.2 < (x.1.length : Int)) (par_bif (par_ret _) (par_ite (c := 0 ≤ x.2.2.2 ∧ x.2.2.2 < (x.1.length : Int)) (par_bif (par_ret _) (par_ret _)) par_none)) par_none))) par_none))) par_none) (par_ret _))

def n35n_d (a0 : (List dVersion)) (a1 : Int) (k : Int → Option Res) : Option Res :=
  loopK n35n_b0 Fuel (a0, a1, (0 : Int), (0 : Int)) (Sum.elim (fun z1 =>
    k z1.2.2.1) (fun z2 =>
    k z2.2.1))

def n35n_k := shut n35n_d
theorem n35n_e : n35n_k = n35n_d := shut_eq _

theorem n35n_p (a0 : (List dVersion)) (a1 : Int) : Par (n35n_k a0 a1) := by
  rw [n35n_e]
  unfold n35n_d
  exact ((par_loop n35n_bp0 Fuel (a0, a1, (0 : Int), (0 : Int))).bind2 (fun z1 => (par_ret _)) (fun z2 => (par_ret _)))

def n33n_b0 (x : q3T) (k : q3T ⊕ (q3T ⊕ q3T) → Option Res) : Option Res :=
    bif (decide (x.2.2.2 < (x.1.length : Int))) then
      if 0 ≤ x.2.2.2 ∧ x.2.2.2 < (x.1.length : Int) then
        n40n_k x.2.1 (fun y3 =>
          bif (!(strEq ((rd (Ty.zero tRange) x.1 x.2.2.2).1) y3)) then
            k (.inr (.inl (x.1, x.2.1, (-1 : Int), x.2.2.2)))
          else
            if 0 ≤ x.2.2.2 ∧ x.2.2.2 < (x.1.length : Int) then
              n40n_k (IntKind.wrap .i64 (x.2.1 + (1 : Int))) (fun y4 =>
                bif (!(strEq ((rd (Ty.zero tRange) x.1 x.2.2.2).2) y4)) then
                  k (.inr (.inl (x.1, (IntKind.wrap .i64 (x.2.1 + (1 : Int))), (-1 : Int), x.2.2.2)))
                else
                  k (.inl (x.1, (IntKind.wrap .i64 ((IntKind.wrap .i64 (x.2.1 + (1 : Int))) + (1 : Int))), x.2.2.1, (IntKind.wrap .i64 (x.2.2.2 + (1 : Int))))))
            else none)
      else none
    else
      k (.inr (.inr (x.1, x.2.1, x.2.2.1, x.2.2.2)))

theorem n33n_bp0 (x : q3T) : Par (n33n_b0 x) := by
  unfold n33n_b0
  exact (par_bif (par_ite (c := 0 ≤ x.2.2.2 ∧ x.2.2.2 < (x.1.length : Int)) ((n40n_p x.2.1).bind fun y3 => (par_bif (par_ret _) (par_ite (c := 0 ≤ x.2.2.2 ∧ x.2.2.2 < (x.1.length : Int)) ((n40n_p (IntKind.wrap .i64 (x.2.1 + (1 : Int)))).bind fun y4 => (par_bif (par_ret _) (par_ret _))) par_none))) par_none) (par_ret _))

def n33n_d (a0 : (List dRange)) (a1 : Int) (k : Int → Option Res) : Option Res :=
  loopK n33n_b0 Fuel (a0, a1, (0 : Int), (0 : Int)) (Sum.elim (fun z1 =>
    k z1.2.2.1) (fun z2 =>
    k z2.2.1))

def n33n_k := shut n33n_d
theorem n33n_e : n33n_k = n33n_d := shut_eq _

theorem n33n_p (a0 : (List dRange)) (a1 : Int) : Par (n33n_k a0 a1) := by
  rw [n33n_e]
  unfold n33n_d
  exact ((par_loop n33n_bp0 Fuel (a0, a1, (0 : Int), (0 : Int))).bind2 (fun z1 => (par_ret _)) (fun z2 => (par_ret _)))

def n36n_b0 (x : q19T) (k : q19T ⊕ (q19T ⊕ q19T) → Option Res) : Option Res :=
    bif (decide (x.2.2.2 < (x.1.length : Int))) then
      if 0 ≤ x.2.2.2 ∧ x.2.2.2 < (x.1.length : Int) then
        n40n_k x.2.1 (fun y3 =>
          bif (!(strEq ((rd (Ty.zero tWrite) x.1 x.2.2.2).1) y3)) then
            k (.inr (.inl (x.1, x.2.1, (-1 : Int), x.2.2.2)))
          else
            if 0 ≤ x.2.2.2 ∧ x.2.2.2 < (x.1.length : Int) then
              n40n_k (IntKind.wrap .i64 (x.2.1 + (1 : Int))) (fun y4 =>
                bif (!(strEq ((rd (Ty.zero tWrite) x.1 x.2.2.2).2.1) y4)) then
                  k (.inr (.inl (x.1, (IntKind.wrap .i64 (x.2.1 + (1 : Int))), (-1 : Int), x.2.2.2)))
                else
                  if 0 ≤ x.2.2.2 ∧ x.2.2.2 < (x.1.length : Int) then
                    bif (!((rd (Ty.zero tWrite) x.1 x.2.2.2).2.2 == (((IntKind.wrap .i64 ((IntKind.wrap .i64 (x.2.1 + (1 : Int))) + (1 : Int))).tmod (3 : Int)) == (0 : Int)))) then
                      k (.inr (.inl (x.1, (IntKind.wrap .i64 ((IntKind.wrap .i64 (x.2.1 + (1 : Int))) + (1 : Int))), (-1 : Int), x.2.2.2)))
                    else
                      k (.inl (x.1, (IntKind.wrap .i64 ((IntKind.wrap .i64 ((IntKind.wrap .i64 (x.2.1 + (1 : Int))) + (1 : Int))) + (1 : Int))), x.2.2.1, (IntKind.wrap .i64 (x.2.2.2 + (1 : Int)))))
                  else none)
            else none)
      else none
    else
      k (.inr (.inr (x.1, x.2.1, x.2.2.1, x.2.2.2)))

theorem n36n_bp0 (x : q19T) : Par (n36n_b0 x) := by
  unfold n36n_b0
  exact (par_bif (par_ite (c := 0 ≤ x.2.2.2 ∧ x.2.2.2 < (x.1.length : Int)) ((n40n_p x.2.1).bind fun y3 => (par_bif (par_ret _) (par_ite (c := 0 ≤ x.2.2.2 ∧ x.2.2.2 < (x.1.length : Int)) ((n40n_p (IntKind.wrap .i64 (x.2.1 + (1 : Int)))).bind fun y4 => (par_bif (par_ret _) (par_ite (c := 0 ≤ x.2.2.2 ∧ x.2.2.2 < (x.1.length : Int)) (par_bif (par_ret _) (par_ret _)) par_none))) par_none))) par_none) (par_ret _))

def n36n_d (a0 : (List dWrite)) (a1 : Int) (k : Int → Option Res) : Option Res :=
  loopK n36n_b0 Fuel (a0, a1, (0 : Int), (0 : Int)) (Sum.elim (fun z1 =>
    k z1.2.2.1) (fun z2 =>
    k z2.2.1))

def n36n_k := shut n36n_d
theorem n36n_e : n36n_k = n36n_d := shut_eq _

theorem n36n_p (a0 : (List dWrite)) (a1 : Int) : Par (n36n_k a0 a1) := by
  rw [n36n_e]
  unfold n36n_d
  exact ((par_loop n36n_bp0 Fuel (a0, a1, (0 : Int), (0 : Int))).bind2 (fun z1 => (par_ret _)) (fun z2 => (par_ret _)))

def n34n_b0 (x : q8T) (k : q8T ⊕ (q8T ⊕ q8T) → Option Res) : Option Res :=
    bif (decide (x.2.2.2 < (x.1.length : Int))) then
      if 0 ≤ x.2.2.2 ∧ x.2.2.2 < (x.1.length : Int) then
        bif ((rd (Ty.zero tTxn) x.1 x.2.2.2).1 != x.2.1) then
          k (.inr (.inl (x.1, x.2.1, (-1 : Int), x.2.2.2)))
        else
          if 0 ≤ x.2.2.2 ∧ x.2.2.2 < (x.1.length : Int) then
            bif ((rd (Ty.zero tTxn) x.1 x.2.2.2).2.1 != (IntKind.wrap .i64 (x.2.1 + (1 : Int)))) then
              k (.inr (.inl (x.1, (IntKind.wrap .i64 (x.2.1 + (1 : Int))), (-1 : Int), x.2.2.2)))
            else
              if 0 ≤ x.2.2.2 ∧ x.2.2.2 < (x.1.length : Int) then
                bif ((rd (Ty.zero tTxn) x.1 x.2.2.2).2.2.1 != (IntKind.wrap .i64 ((IntKind.wrap .i64 (x.2.1 + (1 : Int))) + (1 : Int)))) then
                  k (.inr (.inl (x.1, (IntKind.wrap .i64 ((IntKind.wrap .i64 (x.2.1 + (1 : Int))) + (1 : Int))), (-1 : Int), x.2.2.2)))
                else
                  if 0 ≤ x.2.2.2 ∧ x.2.2.2 < (x.1.length : Int) then
                    bif ((rd (Ty.zero tTxn) x.1 x.2.2.2).2.2.2.1 != (IntKind.wrap .i64 ((IntKind.wrap .i64 ((IntKind.wrap .i64 (x.2.1 + (1 : Int))) + (1 : Int))) + (1 : Int)))) then
                      k (.inr (.inl (x.1, (IntKind.wrap .i64 ((IntKind.wrap .i64 ((IntKind.wrap .i64 (x.2.1 + (1 : Int))) + (1 : Int))) + (1 : Int))), (-1 : Int), x.2.2.2)))
                    else
                      if 0 ≤ x.2.2.2 ∧ x.2.2.2 < (x.1.length : Int) then
                        n33n_k ((rd (Ty.zero tTxn) x.1 x.2.2.2).2.2.2.2.1) (IntKind.wrap .i64 ((IntKind.wrap .i64 ((IntKind.wrap .i64 ((IntKind.wrap .i64 (x.2.1 + (1 : Int))) + (1 : Int))) + (1 : Int))) + (1 : Int))) (fun y3 =>
                          bif (decide (y3 < (0 : Int))) then
                            k (.inr (.inl (x.1, y3, (-1 : Int), x.2.2.2)))
                          else
                            if 0 ≤ x.2.2.2 ∧ x.2.2.2 < (x.1.length : Int) then
                              n36n_k ((rd (Ty.zero tTxn) x.1 x.2.2.2).2.2.2.2.2.1) y3 (fun y4 =>
                                bif (decide (y4 < (0 : Int))) then
                                  k (.inr (.inl (x.1, y4, (-1 : Int), x.2.2.2)))
                                else
                                  if 0 ≤ x.2.2.2 ∧ x.2.2.2 < (x.1.length : Int) then
                                    bif (!((rd (Ty.zero tTxn) x.1 x.2.2.2).2.2.2.2.2.2.1 == ((y4.tmod (3 : Int)) == (0 : Int)))) then
                                      k (.inr (.inl (x.1, y4, (-1 : Int), x.2.2.2)))
                                    else
                                      if 0 ≤ x.2.2.2 ∧ x.2.2.2 < (x.1.length : Int) then
                                        n40n_k (IntKind.wrap .i64 (y4 + (1 : Int))) (fun y5 =>
                                          bif (!(strEq ((rd (Ty.zero tTxn) x.1 x.2.2.2).2.2.2.2.2.2.2) y5)) then
                                            k (.inr (.inl (x.1, (IntKind.wrap .i64 (y4 + (1 : Int))), (-1 : Int), x.2.2.2)))
                                          else
                                            k (.inl (x.1, (IntKind.wrap .i64 ((IntKind.wrap .i64 (y4 + (1 : Int))) + (1 : Int))), x.2.2.1, (IntKind.wrap .i64 (x.2.2.2 + (1 : Int))))))
                                      else none
                                  else none)
                            else none)
                      else none
                  else none
              else none
          else none
      else none
    else
      k (.inr (.inr (x.1, x.2.1, x.2.2.1, x.2.2.2)))

theorem n34n_bp0 (x : q8T) : Par (n34n_b0 x) := by
  unfold n34n_b0
  exact (par_bif (par_ite (c := 0 ≤ x.2.2.2 ∧ x.2.2.2 < (x.1.length : Int)) (par_bif (par_ret _) (par_ite (c := 0 ≤ x.2.2.2 ∧ x.2.2.2 < (x.1.length : Int)) (par_bif (par_ret _) (par_ite (c := 0 ≤ x.2.2.2 ∧ x.2.2.2 < (x.1.length : Int)) (par_bif (par_ret _) (par_ite (c := 0 ≤ x.2.2.2 ∧ x.2.2.2 < (x.1.length : Int)) (par_bif (par_ret _) (par_ite (c := 0 ≤ x.2.2.2 ∧ x.2.2.2 < (x.1.length : Int)) ((n33n_p ((rd (Ty.zero tTxn) x.1 x.2.2.2).2.2.2.2.1) (IntKind.wrap .i64 ((IntKind.wrap .i64 ((IntKind.wrap .i64 ((IntKind.wrap .i64 (x.2.1 + (1 : Int))) + (1 : Int))) + (1 : Int))) + (1 : Int)))).bind fun y3 => (par_bif (par_ret _) (par_ite (c := 0 ≤ x.2.2.2 ∧ x.2.2.2 < (x.1.length : Int)) ((n36n_p ((rd (Ty.zero tTxn) x.1 x.2.2.2).2.2.2.2.2.1) y3).bind fun y4 => (par_bif (par_ret _) (par_ite (c := 0 ≤ x.2.2.2 ∧ x.2.2.2 < (x.1.length : Int)) (par_bif (par_ret _) (par_ite (c := 0 ≤ x.2.2.2 ∧ x.2.2.2 < (x.1.length : Int)) ((n40n_p (IntKind.wrap .i64 (y4 + (1 : Int)))).bind fun y5 => (par_bif (par_ret _) (par_ret _))) par_none)) par_none))) par_none))) par_none)) par_none)) par_none)) par_none)) par_none) (par_ret _))

def n34n_d (a0 : (List dTxn)) (a1 : Int) (k : Int → Option Res) : Option Res :=
  loopK n34n_b0 Fuel (a0, a1, (0 : Int), (0 : Int)) (Sum.elim (fun z1 =>
    k z1.2.2.1) (fun z2 =>
    k z2.2.1))

def n34n_k := shut n34n_d
theorem n34n_e : n34n_k = n34n_d := shut_eq _

theorem n34n_p (a0 : (List dTxn)) (a1 : Int) : Par (n34n_k a0 a1) := by
  rw [n34n_e]
  unfold n34n_d
  exact ((par_loop n34n_bp0 Fuel (a0, a1, (0 : Int), (0 : Int))).bind2 (fun z1 => (par_ret _)) (fun z2 => (par_ret _)))

def n31n_d (a0 : dBase) (a1 : Int) (k : Int → Option Res) : Option Res :=
  n35n_k a0.1 a1 (fun y1 =>
    bif (decide (y1 < (0 : Int))) then
      k (-1 : Int)
    else
      n34n_k a0.2.1 y1 (fun y2 =>
        bif (decide (y2 < (0 : Int))) then
          k (-1 : Int)
        else
          n34n_k a0.2.2.1 y2 (fun y3 =>
            bif (decide (y3 < (0 : Int))) then
              k (-1 : Int)
            else
              k y3)))

def n31n_k := shut n31n_d
theorem n31n_e : n31n_k = n31n_d := shut_eq _

theorem n31n_p (a0 : dBase) (a1 : Int) : Par (n31n_k a0 a1) := by
  rw [n31n_e]
  unfold n31n_d
  exact ((n35n_p a0.1 a1).bind fun y1 => (par_bif (par_ret _) ((n34n_p a0.2.1 y1).bind fun y2 => (par_bif (par_ret _) ((n34n_p a0.2.2.1 y2).bind fun y3 => (par_bif (par_ret _) (par_ret _)))))))

def n32n_d (a0 : dEngine) (a1 : Int) (k : Int → Option Res) : Option Res :=
  n31n_k a0.1 a1 (fun y1 =>
    bif (decide (y1 < (0 : Int))) then
      k (-1 : Int)
    else
      n34n_k a0.2 y1 (fun y2 =>
        bif (decide (y2 < (0 : Int))) then
          k (-1 : Int)
        else
          k y2))

def n32n_k := shut n32n_d
theorem n32n_e : n32n_k = n32n_d := shut_eq _

theorem n32n_p (a0 : dEngine) (a1 : Int) : Par (n32n_k a0 a1) := by
  rw [n32n_e]
  unfold n32n_d
  exact ((n31n_p a0.1 a1).bind fun y1 => (par_bif (par_ret _) ((n34n_p a0.2 y1).bind fun y2 => (par_bif (par_ret _) (par_ret _)))))

def n20n_j5000029 (x : q23T) (k : q23T → Option Res) : Option Res :=
    n32n_k ((x.2.2.2.2.1, (x.2.2.2.2.2.1, (x.2.2.2.2.2.2.1, (x.2.2.1, x.2.2.2.1)))), x.2.2.2.2.2.2.2) (1 : Int) (fun y22 =>
      bif (decide (y22 < (0 : Int))) then
        k (false, x.2.1, x.2.2.1, x.2.2.2.1, x.2.2.2.2.1, x.2.2.2.2.2.1, x.2.2.2.2.2.2.1, x.2.2.2.2.2.2.2)
      else
        bif (y22 != x.2.1) then
          k (false, x.2.1, x.2.2.1, x.2.2.2.1, x.2.2.2.2.1, x.2.2.2.2.2.1, x.2.2.2.2.2.2.1, x.2.2.2.2.2.2.2)
        else
          k (true, x.2.1, x.2.2.1, x.2.2.2.1, x.2.2.2.2.1, x.2.2.2.2.2.1, x.2.2.2.2.2.2.1, x.2.2.2.2.2.2.2))

theorem n20n_jp5000029 (x : q23T) : Par (n20n_j5000029 x) := by
  unfold n20n_j5000029
  exact ((n32n_p ((x.2.2.2.2.1, (x.2.2.2.2.2.1, (x.2.2.2.2.2.2.1, (x.2.2.1, x.2.2.2.1)))), x.2.2.2.2.2.2.2) (1 : Int)).bind fun y22 => (par_bif (par_ret _) (par_bif (par_ret _) (par_ret _))))

def n20n_j5000018 (x : q33T) (k : (q33T ⊕ q22T) → Option Res) : Option Res :=
    n38n_k x.2.2.2.2.2.2.2.2.2.2.2.2.2.2.1 x.2.2.2.2.2.2.2.2.2.2.2.2.2.2.2.1 (1 : Int) x.2.2.2.2.2.2.2.2.2.2.2.2.2.2.2.2.2.2.2.2.1 x.2.2.2.2.2.2.2.2.2.2.2.2.2.2.2.2.2.2.2.2.2.1 x.2.2.2.2.2.2.2.2.2.2.2.2.2.2.2.2.2.2.2.2.2.2.1 x.2.2.2.2.2.2.2.2.2.2.2.2.2.2.2.2.2.2.2.2.2.2.2 (fun y16 =>
      n32n_k ((y16.2.1, (y16.2.2.1, (y16.2.2.2.1, (x.2.2.2.2.2.2.2.2.2.2.2.2.2.2.1, x.2.2.2.2.2.2.2.2.2.2.2.2.2.2.2.1)))), y16.2.2.2.2) (1 : Int) (fun y17 =>
        bif (decide (y17 < (0 : Int))) then
          k (.inl (x.1, x.2.1, false, x.2.2.2.1, x.2.2.2.2.1, x.2.2.2.2.2.1, x.2.2.2.2.2.2.1, x.2.2.2.2.2.2.2.1, x.2.2.2.2.2.2.2.2.1, x.2.2.2.2.2.2.2.2.2.1, x.2.2.2.2.2.2.2.2.2.2.1, x.2.2.2.2.2.2.2.2.2.2.2.1, x.2.2.2.2.2.2.2.2.2.2.2.2.1, x.2.2.2.2.2.2.2.2.2.2.2.2.2.1, x.2.2.2.2.2.2.2.2.2.2.2.2.2.2.1, x.2.2.2.2.2.2.2.2.2.2.2.2.2.2.2.1, x.2.2.2.2.2.2.2.2.2.2.2.2.2.2.2.2.1, x.2.2.2.2.2.2.2.2.2.2.2.2.2.2.2.2.2.1, x.2.2.2.2.2.2.2.2.2.2.2.2.2.2.2.2.2.2.1, x.2.2.2.2.2.2.2.2.2.2.2.2.2.2.2.2.2.2.2.1, y16.2.1, y16.2.2.1, y16.2.2.2.1, y16.2.2.2.2))
        else
          bif (y17 != y16.1) then
            k (.inl (x.1, x.2.1, false, x.2.2.2.1, x.2.2.2.2.1, x.2.2.2.2.2.1, x.2.2.2.2.2.2.1, x.2.2.2.2.2.2.2.1, x.2.2.2.2.2.2.2.2.1, x.2.2.2.2.2.2.2.2.2.1, x.2.2.2.2.2.2.2.2.2.2.1, x.2.2.2.2.2.2.2.2.2.2.2.1, x.2.2.2.2.2.2.2.2.2.2.2.2.1, x.2.2.2.2.2.2.2.2.2.2.2.2.2.1, x.2.2.2.2.2.2.2.2.2.2.2.2.2.2.1, x.2.2.2.2.2.2.2.2.2.2.2.2.2.2.2.1, x.2.2.2.2.2.2.2.2.2.2.2.2.2.2.2.2.1, x.2.2.2.2.2.2.2.2.2.2.2.2.2.2.2.2.2.1, x.2.2.2.2.2.2.2.2.2.2.2.2.2.2.2.2.2.2.1, x.2.2.2.2.2.2.2.2.2.2.2.2.2.2.2.2.2.2.2.1, y16.2.1, y16.2.2.1, y16.2.2.2.1, y16.2.2.2.2))
          else
            n55n_k ((x.2.2.2.2.2.2.1, (x.2.2.2.2.2.2.2.1, (x.2.2.2.2.2.2.2.2.1, (x.2.2.2.2.2.2.2.2.2.1, x.2.2.2.2.2.2.2.2.2.2.1)))), x.2.2.2.2.2.2.2.2.2.2.2.1) (fun y18 =>
              n00n_k ((y18.2.2.1, (y18.2.2.2.1, (y18.2.2.2.2.1, (y18.1, y18.2.1)))), y18.2.2.2.2.2) x.1 x.2.1 (fun y19 =>
                n22n_k ((y19.2.2.2.2.2.1, (y19.2.2.2.2.2.2.1, (y19.2.2.2.2.2.2.2.1, (y19.1, y19.2.1)))), y19.2.2.2.2.2.2.2.2) ((x.2.2.2.2.2.2.2.2.2.2.2.2.2.2.2.2.1, (x.2.2.2.2.2.2.2.2.2.2.2.2.2.2.2.2.2.1, (x.2.2.2.2.2.2.2.2.2.2.2.2.2.2.2.2.2.2.1, (x.2.2.2.2.2.2.2.2.2.2.2.2.1, x.2.2.2.2.2.2.2.2.2.2.2.2.2.1)))), x.2.2.2.2.2.2.2.2.2.2.2.2.2.2.2.2.2.2.2.1) (fun y20 =>
                  bif (!y20) then
                    k (.inl (x.1, x.2.1, false, x.2.2.2.1, x.2.2.2.2.1, x.2.2.2.2.2.1, x.2.2.2.2.2.2.1, x.2.2.2.2.2.2.2.1, x.2.2.2.2.2.2.2.2.1, x.2.2.2.2.2.2.2.2.2.1, x.2.2.2.2.2.2.2.2.2.2.1, x.2.2.2.2.2.2.2.2.2.2.2.1, x.2.2.2.2.2.2.2.2.2.2.2.2.1, x.2.2.2.2.2.2.2.2.2.2.2.2.2.1, x.2.2.2.2.2.2.2.2.2.2.2.2.2.2.1, x.2.2.2.2.2.2.2.2.2.2.2.2.2.2.2.1, x.2.2.2.2.2.2.2.2.2.2.2.2.2.2.2.2.1, x.2.2.2.2.2.2.2.2.2.2.2.2.2.2.2.2.2.1, x.2.2.2.2.2.2.2.2.2.2.2.2.2.2.2.2.2.2.1, x.2.2.2.2.2.2.2.2.2.2.2.2.2.2.2.2.2.2.2.1, y16.2.1, y16.2.2.1, y16.2.2.2.1, y16.2.2.2.2))
                  else
                    bif (!(strEq y19.2.2.1 x.2.2.2.1)) then
                      k (.inl (x.1, x.2.1, false, x.2.2.2.1, x.2.2.2.2.1, x.2.2.2.2.2.1, x.2.2.2.2.2.2.1, x.2.2.2.2.2.2.2.1, x.2.2.2.2.2.2.2.2.1, x.2.2.2.2.2.2.2.2.2.1, x.2.2.2.2.2.2.2.2.2.2.1, x.2.2.2.2.2.2.2.2.2.2.2.1, x.2.2.2.2.2.2.2.2.2.2.2.2.1, x.2.2.2.2.2.2.2.2.2.2.2.2.2.1, x.2.2.2.2.2.2.2.2.2.2.2.2.2.2.1, x.2.2.2.2.2.2.2.2.2.2.2.2.2.2.2.1, x.2.2.2.2.2.2.2.2.2.2.2.2.2.2.2.2.1, x.2.2.2.2.2.2.2.2.2.2.2.2.2.2.2.2.2.1, x.2.2.2.2.2.2.2.2.2.2.2.2.2.2.2.2.2.2.1, x.2.2.2.2.2.2.2.2.2.2.2.2.2.2.2.2.2.2.2.1, y16.2.1, y16.2.2.1, y16.2.2.2.1, y16.2.2.2.2))
                    else
                      bif (!(y19.2.2.2.1 == x.2.2.2.2.1)) then
                        k (.inl (x.1, x.2.1, false, x.2.2.2.1, x.2.2.2.2.1, x.2.2.2.2.2.1, x.2.2.2.2.2.2.1, x.2.2.2.2.2.2.2.1, x.2.2.2.2.2.2.2.2.1, x.2.2.2.2.2.2.2.2.2.1, x.2.2.2.2.2.2.2.2.2.2.1, x.2.2.2.2.2.2.2.2.2.2.2.1, x.2.2.2.2.2.2.2.2.2.2.2.2.1, x.2.2.2.2.2.2.2.2.2.2.2.2.2.1, x.2.2.2.2.2.2.2.2.2.2.2.2.2.2.1, x.2.2.2.2.2.2.2.2.2.2.2.2.2.2.2.1, x.2.2.2.2.2.2.2.2.2.2.2.2.2.2.2.2.1, x.2.2.2.2.2.2.2.2.2.2.2.2.2.2.2.2.2.1, x.2.2.2.2.2.2.2.2.2.2.2.2.2.2.2.2.2.2.1, x.2.2.2.2.2.2.2.2.2.2.2.2.2.2.2.2.2.2.2.1, y16.2.1, y16.2.2.1, y16.2.2.2.1, y16.2.2.2.2))
                      else
                        bif (y19.2.2.2.2.1 != x.2.2.2.2.2.1) then
                          k (.inl (x.1, x.2.1, false, x.2.2.2.1, x.2.2.2.2.1, x.2.2.2.2.2.1, x.2.2.2.2.2.2.1, x.2.2.2.2.2.2.2.1, x.2.2.2.2.2.2.2.2.1, x.2.2.2.2.2.2.2.2.2.1, x.2.2.2.2.2.2.2.2.2.2.1, x.2.2.2.2.2.2.2.2.2.2.2.1, x.2.2.2.2.2.2.2.2.2.2.2.2.1, x.2.2.2.2.2.2.2.2.2.2.2.2.2.1, x.2.2.2.2.2.2.2.2.2.2.2.2.2.2.1, x.2.2.2.2.2.2.2.2.2.2.2.2.2.2.2.1, x.2.2.2.2.2.2.2.2.2.2.2.2.2.2.2.2.1, x.2.2.2.2.2.2.2.2.2.2.2.2.2.2.2.2.2.1, x.2.2.2.2.2.2.2.2.2.2.2.2.2.2.2.2.2.2.1, x.2.2.2.2.2.2.2.2.2.2.2.2.2.2.2.2.2.2.2.1, y16.2.1, y16.2.2.1, y16.2.2.2.1, y16.2.2.2.2))
                        else
                          n20n_j5000029 (x.2.2.1, y16.1, x.2.2.2.2.2.2.2.2.2.2.2.2.2.2.1, x.2.2.2.2.2.2.2.2.2.2.2.2.2.2.2.1, y16.2.1, y16.2.2.1, y16.2.2.2.1, y16.2.2.2.2) (fun z21 =>
                            k (.inr (z21.1, z21.2.2.1, z21.2.2.2.1, z21.2.2.2.2.1, z21.2.2.2.2.2.1, z21.2.2.2.2.2.2.1, z21.2.2.2.2.2.2.2))))))))

theorem n20n_jp5000018 (x : q33T) : Par (n20n_j5000018 x) := by
  unfold n20n_j5000018
  exact ((n38n_p x.2.2.2.2.2.2.2.2.2.2.2.2.2.2.1 x.2.2.2.2.2.2.2.2.2.2.2.2.2.2.2.1 (1 : Int) x.2.2.2.2.2.2.2.2.2.2.2.2.2.2.2.2.2.2.2.2.1 x.2.2.2.2.2.2.2.2.2.2.2.2.2.2.2.2.2.2.2.2.2.1 x.2.2.2.2.2.2.2.2.2.2.2.2.2.2.2.2.2.2.2.2.2.2.1 x.2.2.2.2.2.2.2.2.2.2.2.2.2.2.2.2.2.2.2.2.2.2.2).bind fun y16 => ((n32n_p ((y16.2.1, (y16.2.2.1, (y16.2.2.2.1, (x.2.2.2.2.2.2.2.2.2.2.2.2.2.2.1, x.2.2.2.2.2.2.2.2.2.2.2.2.2.2.2.1)))), y16.2.2.2.2) (1 : Int)).bind fun y17 => (par_bif (par_ret _) (par_bif (par_ret _) ((n55n_p ((x.2.2.2.2.2.2.1, (x.2.2.2.2.2.2.2.1, (x.2.2.2.2.2.2.2.2.1, (x.2.2.2.2.2.2.2.2.2.1, x.2.2.2.2.2.2.2.2.2.2.1)))), x.2.2.2.2.2.2.2.2.2.2.2.1)).bind fun y18 => ((n00n_p ((y18.2.2.1, (y18.2.2.2.1, (y18.2.2.2.2.1, (y18.1, y18.2.1)))), y18.2.2.2.2.2) x.1 x.2.1).bind fun y19 => ((n22n_p ((y19.2.2.2.2.2.1, (y19.2.2.2.2.2.2.1, (y19.2.2.2.2.2.2.2.1, (y19.1, y19.2.1)))), y19.2.2.2.2.2.2.2.2) ((x.2.2.2.2.2.2.2.2.2.2.2.2.2.2.2.2.1, (x.2.2.2.2.2.2.2.2.2.2.2.2.2.2.2.2.2.1, (x.2.2.2.2.2.2.2.2.2.2.2.2.2.2.2.2.2.2.1, (x.2.2.2.2.2.2.2.2.2.2.2.2.1, x.2.2.2.2.2.2.2.2.2.2.2.2.2.1)))), x.2.2.2.2.2.2.2.2.2.2.2.2.2.2.2.2.2.2.2.1)).bind fun y20 => (par_bif (par_ret _) (par_bif (par_ret _) (par_bif (par_ret _) (par_bif (par_ret _) ((n20n_jp5000029 (x.2.2.1, y16.1, x.2.2.2.2.2.2.2.2.2.2.2.2.2.2.1, x.2.2.2.2.2.2.2.2.2.2.2.2.2.2.2.1, y16.2.1, y16.2.2.1, y16.2.2.2.1, y16.2.2.2.2)).bind fun z21 => (par_ret _)))))))))))))

def n20n_j5000012 (x : q34T) (k : (q34T ⊕ (q33T ⊕ q22T)) → Option Res) : Option Res :=
    n55n_k ((x.2.2.2.2.2.2.2.2.2.1, (x.2.2.2.2.2.2.2.2.2.2.1, (x.2.2.2.2.2.2.2.2.2.2.2.1, (x.2.2.2.2.2.2.2.2.2.2.2.2.1, x.2.2.2.2.2.2.2.2.2.2.2.2.2.1)))), x.2.2.2.2.2.2.2.2.2.2.2.2.2.2.1) (fun y10 =>
      n22n_k ((x.2.2.2.2.2.2.2.2.2.2.2.2.2.2.2.2.2.2.2.2.2.2.2.2.2.1, (x.2.2.2.2.2.2.2.2.2.2.2.2.2.2.2.2.2.2.2.2.2.2.2.2.2.2.1, (x.2.2.2.2.2.2.2.2.2.2.2.2.2.2.2.2.2.2.2.2.2.2.2.2.2.2.2.1, (x.2.2.2.2.2.2.2.2.2.2.2.2.2.2.2.2.2.1, x.2.2.2.2.2.2.2.2.2.2.2.2.2.2.2.2.2.2.1)))), x.2.2.2.2.2.2.2.2.2.2.2.2.2.2.2.2.2.2.2.2.2.2.2.2.2.2.2.2.1) ((y10.2.2.1, (y10.2.2.2.1, (y10.2.2.2.2.1, (y10.1, y10.2.1)))), y10.2.2.2.2.2) (fun y11 =>
        bif (!y11) then
          k (.inl (x.1, x.2.1, false, x.2.2.2.1, x.2.2.2.2.1, x.2.2.2.2.2.1, x.2.2.2.2.2.2.1, x.2.2.2.2.2.2.2.1, x.2.2.2.2.2.2.2.2.1, x.2.2.2.2.2.2.2.2.2.1, x.2.2.2.2.2.2.2.2.2.2.1, x.2.2.2.2.2.2.2.2.2.2.2.1, x.2.2.2.2.2.2.2.2.2.2.2.2.1, x.2.2.2.2.2.2.2.2.2.2.2.2.2.1, x.2.2.2.2.2.2.2.2.2.2.2.2.2.2.1, x.2.2.2.2.2.2.2.2.2.2.2.2.2.2.2.1, x.2.2.2.2.2.2.2.2.2.2.2.2.2.2.2.2.1, x.2.2.2.2.2.2.2.2.2.2.2.2.2.2.2.2.2.1, x.2.2.2.2.2.2.2.2.2.2.2.2.2.2.2.2.2.2.1, x.2.2.2.2.2.2.2.2.2.2.2.2.2.2.2.2.2.2.2.1, x.2.2.2.2.2.2.2.2.2.2.2.2.2.2.2.2.2.2.2.2.1, x.2.2.2.2.2.2.2.2.2.2.2.2.2.2.2.2.2.2.2.2.2.1, x.2.2.2.2.2.2.2.2.2.2.2.2.2.2.2.2.2.2.2.2.2.2.1, x.2.2.2.2.2.2.2.2.2.2.2.2.2.2.2.2.2.2.2.2.2.2.2.1, x.2.2.2.2.2.2.2.2.2.2.2.2.2.2.2.2.2.2.2.2.2.2.2.2.1, x.2.2.2.2.2.2.2.2.2.2.2.2.2.2.2.2.2.2.2.2.2.2.2.2.2.1, x.2.2.2.2.2.2.2.2.2.2.2.2.2.2.2.2.2.2.2.2.2.2.2.2.2.2.1, x.2.2.2.2.2.2.2.2.2.2.2.2.2.2.2.2.2.2.2.2.2.2.2.2.2.2.2.1, x.2.2.2.2.2.2.2.2.2.2.2.2.2.2.2.2.2.2.2.2.2.2.2.2.2.2.2.2.1, x.2.2.2.2.2.2.2.2.2.2.2.2.2.2.2.2.2.2.2.2.2.2.2.2.2.2.2.2.2.1, x.2.2.2.2.2.2.2.2.2.2.2.2.2.2.2.2.2.2.2.2.2.2.2.2.2.2.2.2.2.2.1, x.2.2.2.2.2.2.2.2.2.2.2.2.2.2.2.2.2.2.2.2.2.2.2.2.2.2.2.2.2.2.2.1, x.2.2.2.2.2.2.2.2.2.2.2.2.2.2.2.2.2.2.2.2.2.2.2.2.2.2.2.2.2.2.2.2))
        else
          n38n_k x.2.2.2.2.2.2.2.2.2.2.2.2.2.2.2.2.2.1 x.2.2.2.2.2.2.2.2.2.2.2.2.2.2.2.2.2.2.1 (1 : Int) x.2.2.2.2.2.2.2.2.2.2.2.2.2.2.2.2.2.2.2.2.2.2.2.2.2.1 x.2.2.2.2.2.2.2.2.2.2.2.2.2.2.2.2.2.2.2.2.2.2.2.2.2.2.1 x.2.2.2.2.2.2.2.2.2.2.2.2.2.2.2.2.2.2.2.2.2.2.2.2.2.2.2.1 x.2.2.2.2.2.2.2.2.2.2.2.2.2.2.2.2.2.2.2.2.2.2.2.2.2.2.2.2.1 (fun y12 =>
            bif (decide (y12.1 < (0 : Int))) then
              k (.inl (x.1, x.2.1, false, x.2.2.2.1, x.2.2.2.2.1, x.2.2.2.2.2.1, x.2.2.2.2.2.2.1, x.2.2.2.2.2.2.2.1, x.2.2.2.2.2.2.2.2.1, x.2.2.2.2.2.2.2.2.2.1, x.2.2.2.2.2.2.2.2.2.2.1, x.2.2.2.2.2.2.2.2.2.2.2.1, x.2.2.2.2.2.2.2.2.2.2.2.2.1, x.2.2.2.2.2.2.2.2.2.2.2.2.2.1, x.2.2.2.2.2.2.2.2.2.2.2.2.2.2.1, x.2.2.2.2.2.2.2.2.2.2.2.2.2.2.2.1, x.2.2.2.2.2.2.2.2.2.2.2.2.2.2.2.2.1, x.2.2.2.2.2.2.2.2.2.2.2.2.2.2.2.2.2.1, x.2.2.2.2.2.2.2.2.2.2.2.2.2.2.2.2.2.2.1, x.2.2.2.2.2.2.2.2.2.2.2.2.2.2.2.2.2.2.2.1, x.2.2.2.2.2.2.2.2.2.2.2.2.2.2.2.2.2.2.2.2.1, x.2.2.2.2.2.2.2.2.2.2.2.2.2.2.2.2.2.2.2.2.2.1, x.2.2.2.2.2.2.2.2.2.2.2.2.2.2.2.2.2.2.2.2.2.2.1, x.2.2.2.2.2.2.2.2.2.2.2.2.2.2.2.2.2.2.2.2.2.2.2.1, x.2.2.2.2.2.2.2.2.2.2.2.2.2.2.2.2.2.2.2.2.2.2.2.2.1, y12.2.1, y12.2.2.1, y12.2.2.2.1, y12.2.2.2.2, x.2.2.2.2.2.2.2.2.2.2.2.2.2.2.2.2.2.2.2.2.2.2.2.2.2.2.2.2.2.1, x.2.2.2.2.2.2.2.2.2.2.2.2.2.2.2.2.2.2.2.2.2.2.2.2.2.2.2.2.2.2.1, x.2.2.2.2.2.2.2.2.2.2.2.2.2.2.2.2.2.2.2.2.2.2.2.2.2.2.2.2.2.2.2.1, x.2.2.2.2.2.2.2.2.2.2.2.2.2.2.2.2.2.2.2.2.2.2.2.2.2.2.2.2.2.2.2.2))
            else
              n22n_k ((x.2.2.2.2.2.2.2.2.2.2.2.2.2.2.2.2.2.2.2.2.2.2.2.2.2.2.2.2.2.1, (x.2.2.2.2.2.2.2.2.2.2.2.2.2.2.2.2.2.2.2.2.2.2.2.2.2.2.2.2.2.2.1, (x.2.2.2.2.2.2.2.2.2.2.2.2.2.2.2.2.2.2.2.2.2.2.2.2.2.2.2.2.2.2.2.1, (x.2.2.2.2.2.2.2.2.2.2.2.2.2.2.2.2.2.2.2.1, x.2.2.2.2.2.2.2.2.2.2.2.2.2.2.2.2.2.2.2.2.1)))), x.2.2.2.2.2.2.2.2.2.2.2.2.2.2.2.2.2.2.2.2.2.2.2.2.2.2.2.2.2.2.2.2) ((x.2.2.2.2.2.2.2.2.2.2.2.2.2.2.2.2.2.2.2.2.2.1, (x.2.2.2.2.2.2.2.2.2.2.2.2.2.2.2.2.2.2.2.2.2.2.1, (x.2.2.2.2.2.2.2.2.2.2.2.2.2.2.2.2.2.2.2.2.2.2.2.1, (x.2.2.2.2.2.2.2.2.2.2.2.2.2.2.2.1, x.2.2.2.2.2.2.2.2.2.2.2.2.2.2.2.2.1)))), x.2.2.2.2.2.2.2.2.2.2.2.2.2.2.2.2.2.2.2.2.2.2.2.2.1) (fun y13 =>
                bif (!y13) then
                  k (.inl (x.1, x.2.1, false, x.2.2.2.1, x.2.2.2.2.1, x.2.2.2.2.2.1, x.2.2.2.2.2.2.1, x.2.2.2.2.2.2.2.1, x.2.2.2.2.2.2.2.2.1, x.2.2.2.2.2.2.2.2.2.1, x.2.2.2.2.2.2.2.2.2.2.1, x.2.2.2.2.2.2.2.2.2.2.2.1, x.2.2.2.2.2.2.2.2.2.2.2.2.1, x.2.2.2.2.2.2.2.2.2.2.2.2.2.1, x.2.2.2.2.2.2.2.2.2.2.2.2.2.2.1, x.2.2.2.2.2.2.2.2.2.2.2.2.2.2.2.1, x.2.2.2.2.2.2.2.2.2.2.2.2.2.2.2.2.1, x.2.2.2.2.2.2.2.2.2.2.2.2.2.2.2.2.2.1, x.2.2.2.2.2.2.2.2.2.2.2.2.2.2.2.2.2.2.1, x.2.2.2.2.2.2.2.2.2.2.2.2.2.2.2.2.2.2.2.1, x.2.2.2.2.2.2.2.2.2.2.2.2.2.2.2.2.2.2.2.2.1, x.2.2.2.2.2.2.2.2.2.2.2.2.2.2.2.2.2.2.2.2.2.1, x.2.2.2.2.2.2.2.2.2.2.2.2.2.2.2.2.2.2.2.2.2.2.1, x.2.2.2.2.2.2.2.2.2.2.2.2.2.2.2.2.2.2.2.2.2.2.2.1, x.2.2.2.2.2.2.2.2.2.2.2.2.2.2.2.2.2.2.2.2.2.2.2.2.1, y12.2.1, y12.2.2.1, y12.2.2.2.1, y12.2.2.2.2, x.2.2.2.2.2.2.2.2.2.2.2.2.2.2.2.2.2.2.2.2.2.2.2.2.2.2.2.2.2.1, x.2.2.2.2.2.2.2.2.2.2.2.2.2.2.2.2.2.2.2.2.2.2.2.2.2.2.2.2.2.2.1, x.2.2.2.2.2.2.2.2.2.2.2.2.2.2.2.2.2.2.2.2.2.2.2.2.2.2.2.2.2.2.2.1, x.2.2.2.2.2.2.2.2.2.2.2.2.2.2.2.2.2.2.2.2.2.2.2.2.2.2.2.2.2.2.2.2))
                else
                  bif (!(strEq x.2.2.2.2.2.2.1 x.2.2.2.1)) then
                    k (.inl (x.1, x.2.1, false, x.2.2.2.1, x.2.2.2.2.1, x.2.2.2.2.2.1, x.2.2.2.2.2.2.1, x.2.2.2.2.2.2.2.1, x.2.2.2.2.2.2.2.2.1, x.2.2.2.2.2.2.2.2.2.1, x.2.2.2.2.2.2.2.2.2.2.1, x.2.2.2.2.2.2.2.2.2.2.2.1, x.2.2.2.2.2.2.2.2.2.2.2.2.1, x.2.2.2.2.2.2.2.2.2.2.2.2.2.1, x.2.2.2.2.2.2.2.2.2.2.2.2.2.2.1, x.2.2.2.2.2.2.2.2.2.2.2.2.2.2.2.1, x.2.2.2.2.2.2.2.2.2.2.2.2.2.2.2.2.1, x.2.2.2.2.2.2.2.2.2.2.2.2.2.2.2.2.2.1, x.2.2.2.2.2.2.2.2.2.2.2.2.2.2.2.2.2.2.1, x.2.2.2.2.2.2.2.2.2.2.2.2.2.2.2.2.2.2.2.1, x.2.2.2.2.2.2.2.2.2.2.2.2.2.2.2.2.2.2.2.2.1, x.2.2.2.2.2.2.2.2.2.2.2.2.2.2.2.2.2.2.2.2.2.1, x.2.2.2.2.2.2.2.2.2.2.2.2.2.2.2.2.2.2.2.2.2.2.1, x.2.2.2.2.2.2.2.2.2.2.2.2.2.2.2.2.2.2.2.2.2.2.2.1, x.2.2.2.2.2.2.2.2.2.2.2.2.2.2.2.2.2.2.2.2.2.2.2.2.1, y12.2.1, y12.2.2.1, y12.2.2.2.1, y12.2.2.2.2, x.2.2.2.2.2.2.2.2.2.2.2.2.2.2.2.2.2.2.2.2.2.2.2.2.2.2.2.2.2.1, x.2.2.2.2.2.2.2.2.2.2.2.2.2.2.2.2.2.2.2.2.2.2.2.2.2.2.2.2.2.2.1, x.2.2.2.2.2.2.2.2.2.2.2.2.2.2.2.2.2.2.2.2.2.2.2.2.2.2.2.2.2.2.2.1, x.2.2.2.2.2.2.2.2.2.2.2.2.2.2.2.2.2.2.2.2.2.2.2.2.2.2.2.2.2.2.2.2))
                  else
                    bif (!(x.2.2.2.2.2.2.2.1 == x.2.2.2.2.1)) then
                      k (.inl (x.1, x.2.1, false, x.2.2.2.1, x.2.2.2.2.1, x.2.2.2.2.2.1, x.2.2.2.2.2.2.1, x.2.2.2.2.2.2.2.1, x.2.2.2.2.2.2.2.2.1, x.2.2.2.2.2.2.2.2.2.1, x.2.2.2.2.2.2.2.2.2.2.1, x.2.2.2.2.2.2.2.2.2.2.2.1, x.2.2.2.2.2.2.2.2.2.2.2.2.1, x.2.2.2.2.2.2.2.2.2.2.2.2.2.1, x.2.2.2.2.2.2.2.2.2.2.2.2.2.2.1, x.2.2.2.2.2.2.2.2.2.2.2.2.2.2.2.1, x.2.2.2.2.2.2.2.2.2.2.2.2.2.2.2.2.1, x.2.2.2.2.2.2.2.2.2.2.2.2.2.2.2.2.2.1, x.2.2.2.2.2.2.2.2.2.2.2.2.2.2.2.2.2.2.1, x.2.2.2.2.2.2.2.2.2.2.2.2.2.2.2.2.2.2.2.1, x.2.2.2.2.2.2.2.2.2.2.2.2.2.2.2.2.2.2.2.2.1, x.2.2.2.2.2.2.2.2.2.2.2.2.2.2.2.2.2.2.2.2.2.1, x.2.2.2.2.2.2.2.2.2.2.2.2.2.2.2.2.2.2.2.2.2.2.1, x.2.2.2.2.2.2.2.2.2.2.2.2.2.2.2.2.2.2.2.2.2.2.2.1, x.2.2.2.2.2.2.2.2.2.2.2.2.2.2.2.2.2.2.2.2.2.2.2.2.1, y12.2.1, y12.2.2.1, y12.2.2.2.1, y12.2.2.2.2, x.2.2.2.2.2.2.2.2.2.2.2.2.2.2.2.2.2.2.2.2.2.2.2.2.2.2.2.2.2.1, x.2.2.2.2.2.2.2.2.2.2.2.2.2.2.2.2.2.2.2.2.2.2.2.2.2.2.2.2.2.2.1, x.2.2.2.2.2.2.2.2.2.2.2.2.2.2.2.2.2.2.2.2.2.2.2.2.2.2.2.2.2.2.2.1, x.2.2.2.2.2.2.2.2.2.2.2.2.2.2.2.2.2.2.2.2.2.2.2.2.2.2.2.2.2.2.2.2))
                    else
                      bif (x.2.2.2.2.2.2.2.2.1 != x.2.2.2.2.2.1) then
                        k (.inl (x.1, x.2.1, false, x.2.2.2.1, x.2.2.2.2.1, x.2.2.2.2.2.1, x.2.2.2.2.2.2.1, x.2.2.2.2.2.2.2.1, x.2.2.2.2.2.2.2.2.1, x.2.2.2.2.2.2.2.2.2.1, x.2.2.2.2.2.2.2.2.2.2.1, x.2.2.2.2.2.2.2.2.2.2.2.1, x.2.2.2.2.2.2.2.2.2.2.2.2.1, x.2.2.2.2.2.2.2.2.2.2.2.2.2.1, x.2.2.2.2.2.2.2.2.2.2.2.2.2.2.1, x.2.2.2.2.2.2.2.2.2.2.2.2.2.2.2.1, x.2.2.2.2.2.2.2.2.2.2.2.2.2.2.2.2.1, x.2.2.2.2.2.2.2.2.2.2.2.2.2.2.2.2.2.1, x.2.2.2.2.2.2.2.2.2.2.2.2.2.2.2.2.2.2.1, x.2.2.2.2.2.2.2.2.2.2.2.2.2.2.2.2.2.2.2.1, x.2.2.2.2.2.2.2.2.2.2.2.2.2.2.2.2.2.2.2.2.1, x.2.2.2.2.2.2.2.2.2.2.2.2.2.2.2.2.2.2.2.2.2.1, x.2.2.2.2.2.2.2.2.2.2.2.2.2.2.2.2.2.2.2.2.2.2.1, x.2.2.2.2.2.2.2.2.2.2.2.2.2.2.2.2.2.2.2.2.2.2.2.1, x.2.2.2.2.2.2.2.2.2.2.2.2.2.2.2.2.2.2.2.2.2.2.2.2.1, y12.2.1, y12.2.2.1, y12.2.2.2.1, y12.2.2.2.2, x.2.2.2.2.2.2.2.2.2.2.2.2.2.2.2.2.2.2.2.2.2.2.2.2.2.2.2.2.2.1, x.2.2.2.2.2.2.2.2.2.2.2.2.2.2.2.2.2.2.2.2.2.2.2.2.2.2.2.2.2.2.1, x.2.2.2.2.2.2.2.2.2.2.2.2.2.2.2.2.2.2.2.2.2.2.2.2.2.2.2.2.2.2.2.1, x.2.2.2.2.2.2.2.2.2.2.2.2.2.2.2.2.2.2.2.2.2.2.2.2.2.2.2.2.2.2.2.2))
                      else
                        n20n_j5000018 (x.1, x.2.1, x.2.2.1, x.2.2.2.1, x.2.2.2.2.1, x.2.2.2.2.2.1, x.2.2.2.2.2.2.2.2.2.1, x.2.2.2.2.2.2.2.2.2.2.1, x.2.2.2.2.2.2.2.2.2.2.2.1, x.2.2.2.2.2.2.2.2.2.2.2.2.1, x.2.2.2.2.2.2.2.2.2.2.2.2.2.1, x.2.2.2.2.2.2.2.2.2.2.2.2.2.2.1, x.2.2.2.2.2.2.2.2.2.2.2.2.2.2.2.1, x.2.2.2.2.2.2.2.2.2.2.2.2.2.2.2.2.1, x.2.2.2.2.2.2.2.2.2.2.2.2.2.2.2.2.2.2.2.1, x.2.2.2.2.2.2.2.2.2.2.2.2.2.2.2.2.2.2.2.2.1, x.2.2.2.2.2.2.2.2.2.2.2.2.2.2.2.2.2.2.2.2.2.1, x.2.2.2.2.2.2.2.2.2.2.2.2.2.2.2.2.2.2.2.2.2.2.1, x.2.2.2.2.2.2.2.2.2.2.2.2.2.2.2.2.2.2.2.2.2.2.2.1, x.2.2.2.2.2.2.2.2.2.2.2.2.2.2.2.2.2.2.2.2.2.2.2.2.1, x.2.2.2.2.2.2.2.2.2.2.2.2.2.2.2.2.2.2.2.2.2.2.2.2.2.2.2.2.2.1, x.2.2.2.2.2.2.2.2.2.2.2.2.2.2.2.2.2.2.2.2.2.2.2.2.2.2.2.2.2.2.1, x.2.2.2.2.2.2.2.2.2.2.2.2.2.2.2.2.2.2.2.2.2.2.2.2.2.2.2.2.2.2.2.1, x.2.2.2.2.2.2.2.2.2.2.2.2.2.2.2.2.2.2.2.2.2.2.2.2.2.2.2.2.2.2.2.2) (Sum.elim (fun z14 =>
                          k (.inr (.inl (z14.1, z14.2.1, z14.2.2.1, z14.2.2.2.1, z14.2.2.2.2.1, z14.2.2.2.2.2.1, z14.2.2.2.2.2.2.1, z14.2.2.2.2.2.2.2.1, z14.2.2.2.2.2.2.2.2.1, z14.2.2.2.2.2.2.2.2.2.1, z14.2.2.2.2.2.2.2.2.2.2.1, z14.2.2.2.2.2.2.2.2.2.2.2.1, z14.2.2.2.2.2.2.2.2.2.2.2.2.1, z14.2.2.2.2.2.2.2.2.2.2.2.2.2.1, z14.2.2.2.2.2.2.2.2.2.2.2.2.2.2.1, z14.2.2.2.2.2.2.2.2.2.2.2.2.2.2.2.1, z14.2.2.2.2.2.2.2.2.2.2.2.2.2.2.2.2.1, z14.2.2.2.2.2.2.2.2.2.2.2.2.2.2.2.2.2.1, z14.2.2.2.2.2.2.2.2.2.2.2.2.2.2.2.2.2.2.1, z14.2.2.2.2.2.2.2.2.2.2.2.2.2.2.2.2.2.2.2.1, z14.2.2.2.2.2.2.2.2.2.2.2.2.2.2.2.2.2.2.2.2.1, z14.2.2.2.2.2.2.2.2.2.2.2.2.2.2.2.2.2.2.2.2.2.1, z14.2.2.2.2.2.2.2.2.2.2.2.2.2.2.2.2.2.2.2.2.2.2.1, z14.2.2.2.2.2.2.2.2.2.2.2.2.2.2.2.2.2.2.2.2.2.2.2)))) (fun z15 =>
                          k (.inr (.inr (z15.1, z15.2.1, z15.2.2.1, z15.2.2.2.1, z15.2.2.2.2.1, z15.2.2.2.2.2.1, z15.2.2.2.2.2.2)))))))))

theorem n20n_jp5000012 (x : q34T) : Par (n20n_j5000012 x) := by
  unfold n20n_j5000012
  exact ((n55n_p ((x.2.2.2.2.2.2.2.2.2.1, (x.2.2.2.2.2.2.2.2.2.2.1, (x.2.2.2.2.2.2.2.2.2.2.2.1, (x.2.2.2.2.2.2.2.2.2.2.2.2.1, x.2.2.2.2.2.2.2.2.2.2.2.2.2.1)))), x.2.2.2.2.2.2.2.2.2.2.2.2.2.2.1)).bind fun y10 => ((n22n_p ((x.2.2.2.2.2.2.2.2.2.2.2.2.2.2.2.2.2.2.2.2.2.2.2.2.2.1, (x.2.2.2.2.2.2.2.2.2.2.2.2.2.2.2.2.2.2.2.2.2.2.2.2.2.2.1, (x.2.2.2.2.2.2.2.2.2.2.2.2.2.2.2.2.2.2.2.2.2.2.2.2.2.2.2.1, (x.2.2.2.2.2.2.2.2.2.2.2.2.2.2.2.2.2.1, x.2.2.2.2.2.2.2.2.2.2.2.2.2.2.2.2.2.2.1)))), x.2.2.2.2.2.2.2.2.2.2.2.2.2.2.2.2.2.2.2.2.2.2.2.2.2.2.2.2.1) ((y10.2.2.1, (y10.2.2.2.1, (y10.2.2.2.2.1, (y10.1, y10.2.1)))), y10.2.2.2.2.2)).bind fun y11 => (par_bif (par_ret _) ((n38n_p x.2.2.2.2.2.2.2.2.2.2.2.2.2.2.2.2.2.1 x.2.2.2.2.2.2.2.2.2.2.2.2.2.2.2.2.2.2.1 (1 : Int) x.2.2.2.2.2.2.2.2.2.2.2.2.2.2.2.2.2.2.2.2.2.2.2.2.2.1 x.2.2.2.2.2.2.2.2.2.2.2.2.2.2.2.2.2.2.2.2.2.2.2.2.2.2.1 x.2.2.2.2.2.2.2.2.2.2.2.2.2.2.2.2.2.2.2.2.2.2.2.2.2.2.2.1 x.2.2.2.2.2.2.2.2.2.2.2.2.2.2.2.2.2.2.2.2.2.2.2.2.2.2.2.2.1).bind fun y12 => (par_bif (par_ret _) ((n22n_p ((x.2.2.2.2.2.2.2.2.2.2.2.2.2.2.2.2.2.2.2.2.2.2.2.2.2.2.2.2.2.1, (x.2.2.2.2.2.2.2.2.2.2.2.2.2.2.2.2.2.2.2.2.2.2.2.2.2.2.2.2.2.2.1, (x.2.2.2.2.2.2.2.2.2.2.2.2.2.2.2.2.2.2.2.2.2.2.2.2.2.2.2.2.2.2.2.1, (x.2.2.2.2.2.2.2.2.2.2.2.2.2.2.2.2.2.2.2.1, x.2.2.2.2.2.2.2.2.2.2.2.2.2.2.2.2.2.2.2.2.1)))), x.2.2.2.2.2.2.2.2.2.2.2.2.2.2.2.2.2.2.2.2.2.2.2.2.2.2.2.2.2.2.2.2) ((x.2.2.2.2.2.2.2.2.2.2.2.2.2.2.2.2.2.2.2.2.2.1, (x.2.2.2.2.2.2.2.2.2.2.2.2.2.2.2.2.2.2.2.2.2.2.1, (x.2.2.2.2.2.2.2.2.2.2.2.2.2.2.2.2.2.2.2.2.2.2.2.1, (x.2.2.2.2.2.2.2.2.2.2.2.2.2.2.2.1, x.2.2.2.2.2.2.2.2.2.2.2.2.2.2.2.2.1)))), x.2.2.2.2.2.2.2.2.2.2.2.2.2.2.2.2.2.2.2.2.2.2.2.2.1)).bind fun y13 => (par_bif (par_ret _) (par_bif (par_ret _) (par_bif (par_ret _) (par_bif (par_ret _) ((n20n_jp5000018 (x.1, x.2.1, x.2.2.1, x.2.2.2.1, x.2.2.2.2.1, x.2.2.2.2.2.1, x.2.2.2.2.2.2.2.2.2.1, x.2.2.2.2.2.2.2.2.2.2.1, x.2.2.2.2.2.2.2.2.2.2.2.1, x.2.2.2.2.2.2.2.2.2.2.2.2.1, x.2.2.2.2.2.2.2.2.2.2.2.2.2.1, x.2.2.2.2.2.2.2.2.2.2.2.2.2.2.1, x.2.2.2.2.2.2.2.2.2.2.2.2.2.2.2.1, x.2.2.2.2.2.2.2.2.2.2.2.2.2.2.2.2.1, x.2.2.2.2.2.2.2.2.2.2.2.2.2.2.2.2.2.2.2.1, x.2.2.2.2.2.2.2.2.2.2.2.2.2.2.2.2.2.2.2.2.1, x.2.2.2.2.2.2.2.2.2.2.2.2.2.2.2.2.2.2.2.2.2.1, x.2.2.2.2.2.2.2.2.2.2.2.2.2.2.2.2.2.2.2.2.2.2.1, x.2.2.2.2.2.2.2.2.2.2.2.2.2.2.2.2.2.2.2.2.2.2.2.1, x.2.2.2.2.2.2.2.2.2.2.2.2.2.2.2.2.2.2.2.2.2.2.2.2.1, x.2.2.2.2.2.2.2.2.2.2.2.2.2.2.2.2.2.2.2.2.2.2.2.2.2.2.2.2.2.1, x.2.2.2.2.2.2.2.2.2.2.2.2.2.2.2.2.2.2.2.2.2.2.2.2.2.2.2.2.2.2.1, x.2.2.2.2.2.2.2.2.2.2.2.2.2.2.2.2.2.2.2.2.2.2.2.2.2.2.2.2.2.2.2.1, x.2.2.2.2.2.2.2.2.2.2.2.2.2.2.2.2.2.2.2.2.2.2.2.2.2.2.2.2.2.2.2.2)).bind2 (fun z14 => (par_ret _)) (fun z15 => (par_ret _)))))))))))))

def n20n_d (a0 : dEngine) (a1 : Int) (a2 : ByteArray) (k : Bool → Option Res) : Option Res :=
  bif (decide ((a2.size : Int) > (1048576 : Int))) then
    k true
  else
    n45n_k a0 (1048576 : Int) (fun y1 =>
      bif (decide (y1 < (0 : Int))) then
        k true
      else
        n55n_k a0 (fun y2 =>
          n68n_k ((y2.2.2.1, (y2.2.2.2.1, (y2.2.2.2.2.1, (y2.1, y2.2.1)))), y2.2.2.2.2.2) a1 a2 (fun y3 =>
            n55n_k a0 (fun y4 =>
              n00n_k ((y4.2.2.1, (y4.2.2.2.1, (y4.2.2.2.2.1, (y4.1, y4.2.1)))), y4.2.2.2.2.2) a1 a2 (fun y5 =>
                n22n_k ((y5.2.2.2.2.2.1, (y5.2.2.2.2.2.2.1, (y5.2.2.2.2.2.2.2.1, (y5.1, y5.2.1)))), y5.2.2.2.2.2.2.2.2) ((y3.2.2.2.2.2.1, (y3.2.2.2.2.2.2.1, (y3.2.2.2.2.2.2.2.1, (y3.1, y3.2.1)))), y3.2.2.2.2.2.2.2.2) (fun y6 =>
                  bif (!y6) then
                    k false
                  else
                    bif (!(strEq y5.2.2.1 y3.2.2.1)) then
                      k false
                    else
                      bif (!(y5.2.2.2.1 == y3.2.2.2.1)) then
                        k false
                      else
                        bif (y5.2.2.2.2.1 != y3.2.2.2.2.1) then
                          k false
                        else
                          n20n_j5000012 (a1, a2, false, y3.2.2.1, y3.2.2.2.1, y3.2.2.2.2.1, y5.2.2.1, y5.2.2.2.1, y5.2.2.2.2.1, a0.1.1, a0.1.2.1, a0.1.2.2.1, a0.1.2.2.2.1, a0.1.2.2.2.2, a0.2, y3.1, y3.2.1, y4.1, y4.2.1, y5.1, y5.2.1, y3.2.2.2.2.2.1, y3.2.2.2.2.2.2.1, y3.2.2.2.2.2.2.2.1, y3.2.2.2.2.2.2.2.2, y4.2.2.1, y4.2.2.2.1, y4.2.2.2.2.1, y4.2.2.2.2.2, y5.2.2.2.2.2.1, y5.2.2.2.2.2.2.1, y5.2.2.2.2.2.2.2.1, y5.2.2.2.2.2.2.2.2) (Sum.elim (fun z7 =>
                            k z7.2.2.1) (Sum.elim (fun z8 =>
                            k z8.2.2.1) (fun z9 =>
                            k z9.1)))))))))

def n20n_k := shut n20n_d
theorem n20n_e : n20n_k = n20n_d := shut_eq _

theorem n20n_p (a0 : dEngine) (a1 : Int) (a2 : ByteArray) : Par (n20n_k a0 a1 a2) := by
  rw [n20n_e]
  unfold n20n_d
  exact (par_bif (par_ret _) ((n45n_p a0 (1048576 : Int)).bind fun y1 => (par_bif (par_ret _) ((n55n_p a0).bind fun y2 => ((n68n_p ((y2.2.2.1, (y2.2.2.2.1, (y2.2.2.2.2.1, (y2.1, y2.2.1)))), y2.2.2.2.2.2) a1 a2).bind fun y3 => ((n55n_p a0).bind fun y4 => ((n00n_p ((y4.2.2.1, (y4.2.2.2.1, (y4.2.2.2.2.1, (y4.1, y4.2.1)))), y4.2.2.2.2.2) a1 a2).bind fun y5 => ((n22n_p ((y5.2.2.2.2.2.1, (y5.2.2.2.2.2.2.1, (y5.2.2.2.2.2.2.2.1, (y5.1, y5.2.1)))), y5.2.2.2.2.2.2.2.2) ((y3.2.2.2.2.2.1, (y3.2.2.2.2.2.2.1, (y3.2.2.2.2.2.2.2.1, (y3.1, y3.2.1)))), y3.2.2.2.2.2.2.2.2)).bind fun y6 => (par_bif (par_ret _) (par_bif (par_ret _) (par_bif (par_ret _) (par_bif (par_ret _) ((n20n_jp5000012 (a1, a2, false, y3.2.2.1, y3.2.2.2.1, y3.2.2.2.2.1, y5.2.2.1, y5.2.2.2.1, y5.2.2.2.2.1, a0.1.1, a0.1.2.1, a0.1.2.2.1, a0.1.2.2.2.1, a0.1.2.2.2.2, a0.2, y3.1, y3.2.1, y4.1, y4.2.1, y5.1, y5.2.1, y3.2.2.2.2.2.1, y3.2.2.2.2.2.2.1, y3.2.2.2.2.2.2.2.1, y3.2.2.2.2.2.2.2.2, y4.2.2.1, y4.2.2.2.1, y4.2.2.2.2.1, y4.2.2.2.2.2, y5.2.2.2.2.2.1, y5.2.2.2.2.2.2.1, y5.2.2.2.2.2.2.2.1, y5.2.2.2.2.2.2.2.2)).bind2 (fun z7 => (par_ret _)) (fun q => par_elim (fun z8 => (par_ret _)) (fun z9 => (par_ret _)) q))))))))))))))

def n50n_g (args : List AV) (st : St) (k : K1) : Option Res :=
  onPats [.agg [.str, .str, .bool, .int .i64], .int .i64] [] args st (fun p q => n50n_k (p.1.1, (p.1.2.1, (p.1.2.2.1, p.1.2.2.2.1))) p.2.1 (fun (y : Int) => k (.int .i64 y) []))
    (none)

theorem n50n_q (a0 : ByteArray) (a1 : ByteArray) (a2 : Bool) (a3 : Int) (a4 : Int) : Par (fun k : AV × St → Option Res => n50n_g [.agg [.str a0, .str a1, .bool a2, .int .i64 a3], .int .i64 a4] [] (fun v s => k (v, s))) :=
  (n50n_p (a0, (a1, (a2, a3))) a4).bind (H := fun (y : Int) (k : AV × St → Option Res) => (fun (y : Int) => k ((.int .i64 y : AV), ([] : St))) y) (fun y => par_ret _)

def n51n_g (args : List AV) (st : St) (k : K1) : Option Res :=
  onPats [.lst tVersion, .int .i64] [] args st (fun p q => n51n_k p.1 p.2.1 (fun (y : Int) => k (.int .i64 y) []))
    (none)

theorem n51n_q (a0 : (List dVersion)) (a1 : Int) : Par (fun k : AV × St → Option Res => n51n_g [.lst tVersion a0, .int .i64 a1] [] (fun v s => k (v, s))) :=
  (n51n_p a0 a1).bind (H := fun (y : Int) (k : AV × St → Option Res) => (fun (y : Int) => k ((.int .i64 y : AV), ([] : St))) y) (fun y => par_ret _)

def n46n_g (args : List AV) (st : St) (k : K1) : Option Res :=
  onPats [.agg [.str, .str], .int .i64] [] args st (fun p q => n46n_k (p.1.1, p.1.2.1) p.2.1 (fun (y : Int) => k (.int .i64 y) []))
    (none)

theorem n46n_q (a0 : ByteArray) (a1 : ByteArray) (a2 : Int) : Par (fun k : AV × St → Option Res => n46n_g [.agg [.str a0, .str a1], .int .i64 a2] [] (fun v s => k (v, s))) :=
  (n46n_p (a0, a1) a2).bind (H := fun (y : Int) (k : AV × St → Option Res) => (fun (y : Int) => k ((.int .i64 y : AV), ([] : St))) y) (fun y => par_ret _)

def n47n_g (args : List AV) (st : St) (k : K1) : Option Res :=
  onPats [.lst tRange, .int .i64] [] args st (fun p q => n47n_k p.1 p.2.1 (fun (y : Int) => k (.int .i64 y) []))
    (none)

theorem n47n_q (a0 : (List dRange)) (a1 : Int) : Par (fun k : AV × St → Option Res => n47n_g [.lst tRange a0, .int .i64 a1] [] (fun v s => k (v, s))) :=
  (n47n_p a0 a1).bind (H := fun (y : Int) (k : AV × St → Option Res) => (fun (y : Int) => k ((.int .i64 y : AV), ([] : St))) y) (fun y => par_ret _)

def n52n_g (args : List AV) (st : St) (k : K1) : Option Res :=
  onPats [.agg [.str, .str, .bool], .int .i64] [] args st (fun p q => n52n_k (p.1.1, (p.1.2.1, p.1.2.2.1)) p.2.1 (fun (y : Int) => k (.int .i64 y) []))
    (none)

theorem n52n_q (a0 : ByteArray) (a1 : ByteArray) (a2 : Bool) (a3 : Int) : Par (fun k : AV × St → Option Res => n52n_g [.agg [.str a0, .str a1, .bool a2], .int .i64 a3] [] (fun v s => k (v, s))) :=
  (n52n_p (a0, (a1, a2)) a3).bind (H := fun (y : Int) (k : AV × St → Option Res) => (fun (y : Int) => k ((.int .i64 y : AV), ([] : St))) y) (fun y => par_ret _)

def n53n_g (args : List AV) (st : St) (k : K1) : Option Res :=
  onPats [.lst tWrite, .int .i64] [] args st (fun p q => n53n_k p.1 p.2.1 (fun (y : Int) => k (.int .i64 y) []))
    (none)

theorem n53n_q (a0 : (List dWrite)) (a1 : Int) : Par (fun k : AV × St → Option Res => n53n_g [.lst tWrite a0, .int .i64 a1] [] (fun v s => k (v, s))) :=
  (n53n_p a0 a1).bind (H := fun (y : Int) (k : AV × St → Option Res) => (fun (y : Int) => k ((.int .i64 y : AV), ([] : St))) y) (fun y => par_ret _)

def n48n_g (args : List AV) (st : St) (k : K1) : Option Res :=
  onPats [.agg [.int .i64, .int .i64, .int .i64, .int .i64, .lst tRange, .lst tWrite, .bool, .str], .int .i64] [] args st (fun p q => n48n_k (p.1.1, (p.1.2.1, (p.1.2.2.1, (p.1.2.2.2.1, (p.1.2.2.2.2.1, (p.1.2.2.2.2.2.1, (p.1.2.2.2.2.2.2.1, p.1.2.2.2.2.2.2.2.1))))))) p.2.1 (fun (y : Int) => k (.int .i64 y) []))
    (none)

theorem n48n_q (a0 : Int) (a1 : Int) (a2 : Int) (a3 : Int) (a4 : (List dRange)) (a5 : (List dWrite)) (a6 : Bool) (a7 : ByteArray) (a8 : Int) : Par (fun k : AV × St → Option Res => n48n_g [.agg [.int .i64 a0, .int .i64 a1, .int .i64 a2, .int .i64 a3, .lst tRange a4, .lst tWrite a5, .bool a6, .str a7], .int .i64 a8] [] (fun v s => k (v, s))) :=
  (n48n_p (a0, (a1, (a2, (a3, (a4, (a5, (a6, a7))))))) a8).bind (H := fun (y : Int) (k : AV × St → Option Res) => (fun (y : Int) => k ((.int .i64 y : AV), ([] : St))) y) (fun y => par_ret _)

def n49n_g (args : List AV) (st : St) (k : K1) : Option Res :=
  onPats [.lst tTxn, .int .i64] [] args st (fun p q => n49n_k p.1 p.2.1 (fun (y : Int) => k (.int .i64 y) []))
    (none)

theorem n49n_q (a0 : (List dTxn)) (a1 : Int) : Par (fun k : AV × St → Option Res => n49n_g [.lst tTxn a0, .int .i64 a1] [] (fun v s => k (v, s))) :=
  (n49n_p a0 a1).bind (H := fun (y : Int) (k : AV × St → Option Res) => (fun (y : Int) => k ((.int .i64 y : AV), ([] : St))) y) (fun y => par_ret _)

def n44n_g (args : List AV) (st : St) (k : K1) : Option Res :=
  onPats [.agg [.lst tVersion, .lst tTxn, .lst tTxn, .int .i64, .int .i64], .int .i64] [] args st (fun p q => n44n_k (p.1.1, (p.1.2.1, (p.1.2.2.1, (p.1.2.2.2.1, p.1.2.2.2.2.1)))) p.2.1 (fun (y : Int) => k (.int .i64 y) []))
    (none)

theorem n44n_q (a0 : (List dVersion)) (a1 : (List dTxn)) (a2 : (List dTxn)) (a3 : Int) (a4 : Int) (a5 : Int) : Par (fun k : AV × St → Option Res => n44n_g [.agg [.lst tVersion a0, .lst tTxn a1, .lst tTxn a2, .int .i64 a3, .int .i64 a4], .int .i64 a5] [] (fun v s => k (v, s))) :=
  (n44n_p (a0, (a1, (a2, (a3, a4)))) a5).bind (H := fun (y : Int) (k : AV × St → Option Res) => (fun (y : Int) => k ((.int .i64 y : AV), ([] : St))) y) (fun y => par_ret _)

def n45n_g (args : List AV) (st : St) (k : K1) : Option Res :=
  onPats [.agg [.lst tVersion, .lst tTxn, .lst tTxn, .int .i64, .int .i64, .lst tTxn], .int .i64] [] args st (fun p q => n45n_k ((p.1.1, (p.1.2.1, (p.1.2.2.1, (p.1.2.2.2.1, p.1.2.2.2.2.1)))), p.1.2.2.2.2.2.1) p.2.1 (fun (y : Int) => k (.int .i64 y) []))
    (none)

theorem n45n_q (a0 : (List dVersion)) (a1 : (List dTxn)) (a2 : (List dTxn)) (a3 : Int) (a4 : Int) (a5 : (List dTxn)) (a6 : Int) : Par (fun k : AV × St → Option Res => n45n_g [.agg [.lst tVersion a0, .lst tTxn a1, .lst tTxn a2, .int .i64 a3, .int .i64 a4, .lst tTxn a5], .int .i64 a6] [] (fun v s => k (v, s))) :=
  (n45n_p ((a0, (a1, (a2, (a3, a4)))), a5) a6).bind (H := fun (y : Int) (k : AV × St → Option Res) => (fun (y : Int) => k ((.int .i64 y : AV), ([] : St))) y) (fun y => par_ret _)

def n60n_g (args : List AV) (st : St) (k : K1) : Option Res :=
  onPats [.agg [.str, .str, .bool, .int .i64]] [] args st (fun p q => n60n_k (p.1.1, (p.1.2.1, (p.1.2.2.1, p.1.2.2.2.1))) (fun (y : q30T) => k (.agg [.str y.1, .str y.2.1, .bool y.2.2.1, .int .i64 y.2.2.2]) []))
    (none)

theorem n60n_q (a0 : ByteArray) (a1 : ByteArray) (a2 : Bool) (a3 : Int) : Par (fun k : AV × St → Option Res => n60n_g [.agg [.str a0, .str a1, .bool a2, .int .i64 a3]] [] (fun v s => k (v, s))) :=
  (n60n_p (a0, (a1, (a2, a3)))).bind (H := fun (y : q30T) (k : AV × St → Option Res) => (fun (y : q30T) => k ((.agg [.str y.1, .str y.2.1, .bool y.2.2.1, .int .i64 y.2.2.2] : AV), ([] : St))) y) (fun y => par_ret _)

end

end Go.VE
