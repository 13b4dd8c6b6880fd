/- Native programs of the functions, written by gen.py. -/

import Derived.Test.YtdcgbmpmiehemaaV25

namespace Go.VE

noncomputable section

set_option linter.unusedVariables false
set_option maxRecDepth 100000


def laws_szRange_k (a0 : ByteArray) (a1 : ByteArray) (a2 : Int) (k : Int → Option Res) : Option Res :=
  bif (decide ((IntKind.wrap .i64 (a2 - (a0.size : Int))) < (0 : Int))) then
    k (-1 : Int)
  else
    bif (decide ((IntKind.wrap .i64 ((IntKind.wrap .i64 (a2 - (a0.size : Int))) - (a1.size : Int))) < (0 : Int))) then
      k (-1 : Int)
    else
      k (IntKind.wrap .i64 ((IntKind.wrap .i64 (a2 - (a0.size : Int))) - (a1.size : Int)))

theorem laws_szRange_p (a0 : ByteArray) (a1 : ByteArray) (a2 : Int) : Par (laws_szRange_k a0 a1 a2) := by
  unfold laws_szRange_k
  exact (par_bif (par_ret _) (par_bif (par_ret _) (par_ret _)))

def laws_szRangeS_b0 (x : ((List (ByteArray × ByteArray)) × Int × Int × Int)) (k : ((List (ByteArray × ByteArray)) × Int × Int × Int) ⊕ (((List (ByteArray × ByteArray)) × Int × Int × Int) ⊕ ((List (ByteArray × ByteArray)) × Int × Int × Int)) → Option Res) : Option Res :=
    bif (decide (x.2.2.2 < (x.1.length : Int))) then
      if 0 ≤ x.2.2.2 ∧ x.2.2.2 < (x.1.length : Int) then
        laws_szRange_k ((rd (Ty.zero (.pair .str .str)) x.1 x.2.2.2).1) ((rd (Ty.zero (.pair .str .str)) x.1 x.2.2.2).2) x.2.1 (fun y3 =>
          bif (decide (y3 < (0 : Int))) then
            k (.inr (.inl (x.1, y3, (-1 : Int), x.2.2.2)))
          else
            k (.inl (x.1, y3, x.2.2.1, (IntKind.wrap .i64 (x.2.2.2 + (1 : Int))))))
      else none
    else
      k (.inr (.inr (x.1, x.2.1, x.2.2.1, x.2.2.2)))

theorem laws_szRangeS_bp0 (x : ((List (ByteArray × ByteArray)) × Int × Int × Int)) : Par (laws_szRangeS_b0 x) := by
  unfold laws_szRangeS_b0
  exact (par_bif (par_ite ((laws_szRange_p ((rd (Ty.zero (.pair .str .str)) x.1 x.2.2.2).1) ((rd (Ty.zero (.pair .str .str)) x.1 x.2.2.2).2) x.2.1).bind fun y3 => (par_bif (par_ret _) (par_ret _))) par_none) (par_ret _))

def laws_szRangeS_k (a0 : (List (ByteArray × ByteArray))) (a1 : Int) (k : Int → Option Res) : Option Res :=
  bif (decide ((IntKind.wrap .i64 (a1 - (a0.length : Int))) < (0 : Int))) then
    k (-1 : Int)
  else
    loopK laws_szRangeS_b0 Fuel (a0, (IntKind.wrap .i64 (a1 - (a0.length : Int))), (0 : Int), (0 : Int)) (Sum.elim (fun z1 =>
      k z1.2.2.1) (fun z2 =>
      k z2.2.1))

theorem laws_szRangeS_p (a0 : (List (ByteArray × ByteArray))) (a1 : Int) : Par (laws_szRangeS_k a0 a1) := by
  unfold laws_szRangeS_k
  exact (par_bif (par_ret _) ((par_loop laws_szRangeS_bp0 Fuel (a0, (IntKind.wrap .i64 (a1 - (a0.length : Int))), (0 : Int), (0 : Int))).bind2 (fun z1 => (par_ret _)) (fun z2 => (par_ret _))))

def laws_szWrite_k (a0 : ByteArray) (a1 : ByteArray) (a2 : Bool) (a3 : Int) (k : Int → Option Res) : Option Res :=
  bif (decide ((IntKind.wrap .i64 (a3 - (a0.size : Int))) < (0 : Int))) then
    k (-1 : Int)
  else
    bif (decide ((IntKind.wrap .i64 ((IntKind.wrap .i64 (a3 - (a0.size : Int))) - (a1.size : Int))) < (0 : Int))) then
      k (-1 : Int)
    else
      k (IntKind.wrap .i64 ((IntKind.wrap .i64 (a3 - (a0.size : Int))) - (a1.size : Int)))

theorem laws_szWrite_p (a0 : ByteArray) (a1 : ByteArray) (a2 : Bool) (a3 : Int) : Par (laws_szWrite_k a0 a1 a2 a3) := by
  unfold laws_szWrite_k
  exact (par_bif (par_ret _) (par_bif (par_ret _) (par_ret _)))

def laws_szWriteS_b0 (x : ((List (ByteArray × (ByteArray × Bool))) × Int × Int × Int)) (k : ((List (ByteArray × (ByteArray × Bool))) × Int × Int × Int) ⊕ (((List (ByteArray × (ByteArray × Bool))) × Int × Int × Int) ⊕ ((List (ByteArray × (ByteArray × Bool))) × Int × Int × Int)) → Option Res) : Option Res :=
    bif (decide (x.2.2.2 < (x.1.length : Int))) then
      if 0 ≤ x.2.2.2 ∧ x.2.2.2 < (x.1.length : Int) then
        laws_szWrite_k ((rd (Ty.zero (.pair .str (.pair .str .bool))) x.1 x.2.2.2).1) ((rd (Ty.zero (.pair .str (.pair .str .bool))) x.1 x.2.2.2).2.1) ((rd (Ty.zero (.pair .str (.pair .str .bool))) x.1 x.2.2.2).2.2) x.2.1 (fun y3 =>
          bif (decide (y3 < (0 : Int))) then
            k (.inr (.inl (x.1, y3, (-1 : Int), x.2.2.2)))
          else
            k (.inl (x.1, y3, x.2.2.1, (IntKind.wrap .i64 (x.2.2.2 + (1 : Int))))))
      else none
    else
      k (.inr (.inr (x.1, x.2.1, x.2.2.1, x.2.2.2)))

theorem laws_szWriteS_bp0 (x : ((List (ByteArray × (ByteArray × Bool))) × Int × Int × Int)) : Par (laws_szWriteS_b0 x) := by
  unfold laws_szWriteS_b0
  exact (par_bif (par_ite ((laws_szWrite_p ((rd (Ty.zero (.pair .str (.pair .str .bool))) x.1 x.2.2.2).1) ((rd (Ty.zero (.pair .str (.pair .str .bool))) x.1 x.2.2.2).2.1) ((rd (Ty.zero (.pair .str (.pair .str .bool))) x.1 x.2.2.2).2.2) x.2.1).bind fun y3 => (par_bif (par_ret _) (par_ret _))) par_none) (par_ret _))

def laws_szWriteS_k (a0 : (List (ByteArray × (ByteArray × Bool)))) (a1 : Int) (k : Int → Option Res) : Option Res :=
  bif (decide ((IntKind.wrap .i64 (a1 - (a0.length : Int))) < (0 : Int))) then
    k (-1 : Int)
  else
    loopK laws_szWriteS_b0 Fuel (a0, (IntKind.wrap .i64 (a1 - (a0.length : Int))), (0 : Int), (0 : Int)) (Sum.elim (fun z1 =>
      k z1.2.2.1) (fun z2 =>
      k z2.2.1))

theorem laws_szWriteS_p (a0 : (List (ByteArray × (ByteArray × Bool)))) (a1 : Int) : Par (laws_szWriteS_k a0 a1) := by
  unfold laws_szWriteS_k
  exact (par_bif (par_ret _) ((par_loop laws_szWriteS_bp0 Fuel (a0, (IntKind.wrap .i64 (a1 - (a0.length : Int))), (0 : Int), (0 : Int))).bind2 (fun z1 => (par_ret _)) (fun z2 => (par_ret _))))

def laws_szTxn_k (a0 : Int) (a1 : Int) (a2 : Int) (a3 : Int) (a4 : (List (ByteArray × ByteArray))) (a5 : (List (ByteArray × (ByteArray × Bool)))) (a6 : Bool) (a7 : ByteArray) (a8 : Int) (k : Int → Option Res) : Option Res :=
  laws_szRangeS_k a4 a8 (fun y1 =>
    bif (decide (y1 < (0 : Int))) then
      k (-1 : Int)
    else
      laws_szWriteS_k a5 y1 (fun y2 =>
        bif (decide (y2 < (0 : Int))) then
          k (-1 : Int)
        else
          bif (decide ((IntKind.wrap .i64 (y2 - (a7.size : Int))) < (0 : Int))) then
            k (-1 : Int)
          else
            k (IntKind.wrap .i64 (y2 - (a7.size : Int)))))

theorem laws_szTxn_p (a0 : Int) (a1 : Int) (a2 : Int) (a3 : Int) (a4 : (List (ByteArray × ByteArray))) (a5 : (List (ByteArray × (ByteArray × Bool)))) (a6 : Bool) (a7 : ByteArray) (a8 : Int) : Par (laws_szTxn_k a0 a1 a2 a3 a4 a5 a6 a7 a8) := by
  unfold laws_szTxn_k
  exact ((laws_szRangeS_p a4 a8).bind fun y1 => (par_bif (par_ret _) ((laws_szWriteS_p a5 y1).bind fun y2 => (par_bif (par_ret _) (par_bif (par_ret _) (par_ret _))))))

def laws_toRange_k (a0 : ByteArray) (a1 : ByteArray) (k : (ByteArray × ByteArray) → Option Res) : Option Res :=
  k (a0, a1)

theorem laws_toRange_p (a0 : ByteArray) (a1 : ByteArray) : Par (laws_toRange_k a0 a1) := by
  unfold laws_toRange_k
  exact (par_ret _)

def laws_toRangeS_b0 (x : ((List (ByteArray × ByteArray)) × Int × (List (ByteArray × ByteArray)))) (k : ((List (ByteArray × ByteArray)) × Int × (List (ByteArray × ByteArray))) ⊕ ((List (ByteArray × ByteArray)) × Int × (List (ByteArray × ByteArray))) → Option Res) : Option Res :=
    bif (decide (x.2.1 < (x.1.length : Int))) then
      if 0 ≤ x.2.1 ∧ x.2.1 < (x.1.length : Int) then
        laws_toRange_k ((rd (Ty.zero (.pair .str .str)) x.1 x.2.1).1) ((rd (Ty.zero (.pair .str .str)) x.1 x.2.1).2) (fun y2 =>
          if 0 ≤ x.2.1 ∧ x.2.1 < (x.2.2.length : Int) then
            k (.inl (x.1, (IntKind.wrap .i64 (x.2.1 + (1 : Int))), (x.2.2.set x.2.1.toNat (y2.1, y2.2))))
          else none)
      else none
    else
      k (.inr (x.1, x.2.1, x.2.2))

theorem laws_toRangeS_bp0 (x : ((List (ByteArray × ByteArray)) × Int × (List (ByteArray × ByteArray)))) : Par (laws_toRangeS_b0 x) := by
  unfold laws_toRangeS_b0
  exact (par_bif (par_ite ((laws_toRange_p ((rd (Ty.zero (.pair .str .str)) x.1 x.2.1).1) ((rd (Ty.zero (.pair .str .str)) x.1 x.2.1).2)).bind fun y2 => (par_ite (par_ret _) par_none)) par_none) (par_ret _))

def laws_toRangeS_k (a0 : (List (ByteArray × ByteArray))) (k : (List (ByteArray × ByteArray)) → Option Res) : Option Res :=
  if 0 ≤ (a0.length : Int) ∧ (a0.length : Int) ≤ (a0.length : Int) ∧ (a0.length : Int) ≤ (VE.maxLen : Int) then
    loopK laws_toRangeS_b0 Fuel (a0, (0 : Int), (List.replicate (a0.length : Int).toNat (Ty.zero (.pair .str .str)))) (fun z1 =>
      k z1.2.2)
  else none

theorem laws_toRangeS_p (a0 : (List (ByteArray × ByteArray))) : Par (laws_toRangeS_k a0) := by
  unfold laws_toRangeS_k
  exact (par_ite ((par_loop laws_toRangeS_bp0 Fuel (a0, (0 : Int), (List.replicate (a0.length : Int).toNat (Ty.zero (.pair .str .str))))).bind fun z1 => (par_ret _)) par_none)

def laws_toWrite_k (a0 : ByteArray) (a1 : ByteArray) (a2 : Bool) (k : (ByteArray × ByteArray × Bool) → Option Res) : Option Res :=
  k (a0, a1, a2)

theorem laws_toWrite_p (a0 : ByteArray) (a1 : ByteArray) (a2 : Bool) : Par (laws_toWrite_k a0 a1 a2) := by
  unfold laws_toWrite_k
  exact (par_ret _)

def laws_toWriteS_b0 (x : ((List (ByteArray × (ByteArray × Bool))) × Int × (List (ByteArray × (ByteArray × Bool))))) (k : ((List (ByteArray × (ByteArray × Bool))) × Int × (List (ByteArray × (ByteArray × Bool)))) ⊕ ((List (ByteArray × (ByteArray × Bool))) × Int × (List (ByteArray × (ByteArray × Bool)))) → Option Res) : Option Res :=
    bif (decide (x.2.1 < (x.1.length : Int))) then
      if 0 ≤ x.2.1 ∧ x.2.1 < (x.1.length : Int) then
        laws_toWrite_k ((rd (Ty.zero (.pair .str (.pair .str .bool))) x.1 x.2.1).1) ((rd (Ty.zero (.pair .str (.pair .str .bool))) x.1 x.2.1).2.1) ((rd (Ty.zero (.pair .str (.pair .str .bool))) x.1 x.2.1).2.2) (fun y2 =>
          if 0 ≤ x.2.1 ∧ x.2.1 < (x.2.2.length : Int) then
            k (.inl (x.1, (IntKind.wrap .i64 (x.2.1 + (1 : Int))), (x.2.2.set x.2.1.toNat (y2.1, (y2.2.1, y2.2.2)))))
          else none)
      else none
    else
      k (.inr (x.1, x.2.1, x.2.2))

theorem laws_toWriteS_bp0 (x : ((List (ByteArray × (ByteArray × Bool))) × Int × (List (ByteArray × (ByteArray × Bool))))) : Par (laws_toWriteS_b0 x) := by
  unfold laws_toWriteS_b0
  exact (par_bif (par_ite ((laws_toWrite_p ((rd (Ty.zero (.pair .str (.pair .str .bool))) x.1 x.2.1).1) ((rd (Ty.zero (.pair .str (.pair .str .bool))) x.1 x.2.1).2.1) ((rd (Ty.zero (.pair .str (.pair .str .bool))) x.1 x.2.1).2.2)).bind fun y2 => (par_ite (par_ret _) par_none)) par_none) (par_ret _))

def laws_toWriteS_k (a0 : (List (ByteArray × (ByteArray × Bool)))) (k : (List (ByteArray × (ByteArray × Bool))) → Option Res) : Option Res :=
  if 0 ≤ (a0.length : Int) ∧ (a0.length : Int) ≤ (a0.length : Int) ∧ (a0.length : Int) ≤ (VE.maxLen : Int) then
    loopK laws_toWriteS_b0 Fuel (a0, (0 : Int), (List.replicate (a0.length : Int).toNat (Ty.zero (.pair .str (.pair .str .bool))))) (fun z1 =>
      k z1.2.2)
  else none

theorem laws_toWriteS_p (a0 : (List (ByteArray × (ByteArray × Bool)))) : Par (laws_toWriteS_k a0) := by
  unfold laws_toWriteS_k
  exact (par_ite ((par_loop laws_toWriteS_bp0 Fuel (a0, (0 : Int), (List.replicate (a0.length : Int).toNat (Ty.zero (.pair .str (.pair .str .bool)))))).bind fun z1 => (par_ret _)) par_none)

def laws_toTxn_k (a0 : Int) (a1 : Int) (a2 : Int) (a3 : Int) (a4 : (List (ByteArray × ByteArray))) (a5 : (List (ByteArray × (ByteArray × Bool)))) (a6 : Bool) (a7 : ByteArray) (k : (Int × Int × Int × Int × Bool × ByteArray × (List (ByteArray × ByteArray)) × (List (ByteArray × (ByteArray × Bool)))) → Option Res) : Option Res :=
  laws_toRangeS_k a4 (fun y1 =>
    laws_toWriteS_k a5 (fun y2 =>
      k (a0, a1, a2, a3, a6, a7, y1, y2)))

theorem laws_toTxn_p (a0 : Int) (a1 : Int) (a2 : Int) (a3 : Int) (a4 : (List (ByteArray × ByteArray))) (a5 : (List (ByteArray × (ByteArray × Bool)))) (a6 : Bool) (a7 : ByteArray) : Par (laws_toTxn_k a0 a1 a2 a3 a4 a5 a6 a7) := by
  unfold laws_toTxn_k
  exact ((laws_toRangeS_p a4).bind fun y1 => ((laws_toWriteS_p a5).bind fun y2 => (par_ret _)))

def spec_Beside_k (a0 : Int) (a1 : Int) (a2 : Int) (a3 : Int) (a4 : (List (ByteArray × ByteArray))) (a5 : (List (ByteArray × (ByteArray × Bool)))) (a6 : Bool) (a7 : ByteArray) (a8 : Int) (a9 : Int) (a10 : Int) (a11 : Int) (a12 : (List (ByteArray × ByteArray))) (a13 : (List (ByteArray × (ByteArray × Bool)))) (a14 : Bool) (a15 : ByteArray) (k : Bool → Option Res) : Option Res :=
  bif (a0 == a8) then
    k false
  else
    bif (a1 == (3 : Int)) then
      bif (decide (a3 ≤ a10)) then
        k false
      else
        bif (a9 == (3 : Int)) then
          bif (decide (a11 ≤ a2)) then
            k false
          else
            k true
        else
          k true
    else
      bif (a9 == (3 : Int)) then
        bif (decide (a11 ≤ a2)) then
          k false
        else
          k true
      else
        k true

theorem spec_Beside_p (a0 : Int) (a1 : Int) (a2 : Int) (a3 : Int) (a4 : (List (ByteArray × ByteArray))) (a5 : (List (ByteArray × (ByteArray × Bool)))) (a6 : Bool) (a7 : ByteArray) (a8 : Int) (a9 : Int) (a10 : Int) (a11 : Int) (a12 : (List (ByteArray × ByteArray))) (a13 : (List (ByteArray × (ByteArray × Bool)))) (a14 : Bool) (a15 : ByteArray) : Par (spec_Beside_k a0 a1 a2 a3 a4 a5 a6 a7 a8 a9 a10 a11 a12 a13 a14 a15) := by
  unfold spec_Beside_k
  exact (par_bif (par_ret _) (par_bif (par_bif (par_ret _) (par_bif (par_bif (par_ret _) (par_ret _)) (par_ret _))) (par_bif (par_bif (par_ret _) (par_ret _)) (par_ret _))))

def impl_Beside_1_k (a0 : Int) (a1 : Int) (a2 : Int) (a3 : Int) (a4 : (List (ByteArray × ByteArray))) (a5 : (List (ByteArray × (ByteArray × Bool)))) (a6 : Bool) (a7 : ByteArray) (a8 : Int) (a9 : Int) (a10 : Int) (a11 : Int) (a12 : (List (ByteArray × ByteArray))) (a13 : (List (ByteArray × (ByteArray × Bool)))) (a14 : Bool) (a15 : ByteArray) (k : Bool → Option Res) : Option Res :=
  bif (a1 == (3 : Int)) then
    k (decide (a3 ≤ a10))
  else
    k false

theorem impl_Beside_1_p (a0 : Int) (a1 : Int) (a2 : Int) (a3 : Int) (a4 : (List (ByteArray × ByteArray))) (a5 : (List (ByteArray × (ByteArray × Bool)))) (a6 : Bool) (a7 : ByteArray) (a8 : Int) (a9 : Int) (a10 : Int) (a11 : Int) (a12 : (List (ByteArray × ByteArray))) (a13 : (List (ByteArray × (ByteArray × Bool)))) (a14 : Bool) (a15 : ByteArray) : Par (impl_Beside_1_k a0 a1 a2 a3 a4 a5 a6 a7 a8 a9 a10 a11 a12 a13 a14 a15) := by
  unfold impl_Beside_1_k
  exact (par_bif (par_ret _) (par_ret _))

def impl_Beside_k (a0 : Int) (a1 : Int) (a2 : Int) (a3 : Int) (a4 : (List (ByteArray × ByteArray))) (a5 : (List (ByteArray × (ByteArray × Bool)))) (a6 : Bool) (a7 : ByteArray) (a8 : Int) (a9 : Int) (a10 : Int) (a11 : Int) (a12 : (List (ByteArray × ByteArray))) (a13 : (List (ByteArray × (ByteArray × Bool)))) (a14 : Bool) (a15 : ByteArray) (k : Bool → Option Res) : Option Res :=
  bif (a0 != a8) then
    impl_Beside_1_k a0 a1 a2 a3 a4 a5 a6 a7 a8 a9 a10 a11 a12 a13 a14 a15 (fun y1 =>
      bif (!y1) then
        impl_Beside_1_k a8 a9 a10 a11 a12 a13 a14 a15 a0 a1 a2 a3 a4 a5 a6 a7 (fun y2 =>
          k (!y2))
      else
        k false)
  else
    k false

theorem impl_Beside_p (a0 : Int) (a1 : Int) (a2 : Int) (a3 : Int) (a4 : (List (ByteArray × ByteArray))) (a5 : (List (ByteArray × (ByteArray × Bool)))) (a6 : Bool) (a7 : ByteArray) (a8 : Int) (a9 : Int) (a10 : Int) (a11 : Int) (a12 : (List (ByteArray × ByteArray))) (a13 : (List (ByteArray × (ByteArray × Bool)))) (a14 : Bool) (a15 : ByteArray) : Par (impl_Beside_k a0 a1 a2 a3 a4 a5 a6 a7 a8 a9 a10 a11 a12 a13 a14 a15) := by
  unfold impl_Beside_k
  exact (par_bif ((impl_Beside_1_p a0 a1 a2 a3 a4 a5 a6 a7 a8 a9 a10 a11 a12 a13 a14 a15).bind fun y1 => (par_bif ((impl_Beside_1_p a8 a9 a10 a11 a12 a13 a14 a15 a0 a1 a2 a3 a4 a5 a6 a7).bind fun y2 => (par_ret _)) (par_ret _))) (par_ret _))

def laws_eqRange_k (a0 : ByteArray) (a1 : ByteArray) (a2 : ByteArray) (a3 : ByteArray) (k : Bool → Option Res) : Option Res :=
  bif (!(a0.toList == a2.toList)) then
    k false
  else
    bif (!(a1.toList == a3.toList)) then
      k false
    else
      k true

theorem laws_eqRange_p (a0 : ByteArray) (a1 : ByteArray) (a2 : ByteArray) (a3 : ByteArray) : Par (laws_eqRange_k a0 a1 a2 a3) := by
  unfold laws_eqRange_k
  exact (par_bif (par_ret _) (par_bif (par_ret _) (par_ret _)))

def laws_eqRangeS_b0 (x : ((List (ByteArray × ByteArray)) × (List (ByteArray × ByteArray)) × Bool × Int)) (k : ((List (ByteArray × ByteArray)) × (List (ByteArray × ByteArray)) × Bool × Int) ⊕ (((List (ByteArray × ByteArray)) × (List (ByteArray × ByteArray)) × Bool × Int) ⊕ ((List (ByteArray × ByteArray)) × (List (ByteArray × ByteArray)) × Bool × Int)) → Option Res) : Option Res :=
    bif (decide (x.2.2.2 < (x.1.length : Int))) then
      if 0 ≤ x.2.2.2 ∧ x.2.2.2 < (x.1.length : Int) then
        if 0 ≤ x.2.2.2 ∧ x.2.2.2 < (x.2.1.length : Int) then
          laws_eqRange_k ((rd (Ty.zero (.pair .str .str)) x.1 x.2.2.2).1) ((rd (Ty.zero (.pair .str .str)) x.1 x.2.2.2).2) ((rd (Ty.zero (.pair .str .str)) x.2.1 x.2.2.2).1) ((rd (Ty.zero (.pair .str .str)) x.2.1 x.2.2.2).2) (fun y3 =>
            bif (!y3) then
              k (.inr (.inl (x.1, x.2.1, false, x.2.2.2)))
            else
              k (.inl (x.1, x.2.1, x.2.2.1, (IntKind.wrap .i64 (x.2.2.2 + (1 : Int))))))
        else none
      else none
    else
      k (.inr (.inr (x.1, x.2.1, x.2.2.1, x.2.2.2)))

theorem laws_eqRangeS_bp0 (x : ((List (ByteArray × ByteArray)) × (List (ByteArray × ByteArray)) × Bool × Int)) : Par (laws_eqRangeS_b0 x) := by
  unfold laws_eqRangeS_b0
  exact (par_bif (par_ite (par_ite ((laws_eqRange_p ((rd (Ty.zero (.pair .str .str)) x.1 x.2.2.2).1) ((rd (Ty.zero (.pair .str .str)) x.1 x.2.2.2).2) ((rd (Ty.zero (.pair .str .str)) x.2.1 x.2.2.2).1) ((rd (Ty.zero (.pair .str .str)) x.2.1 x.2.2.2).2)).bind fun y3 => (par_bif (par_ret _) (par_ret _))) par_none) par_none) (par_ret _))

def laws_eqRangeS_k (a0 : (List (ByteArray × ByteArray))) (a1 : (List (ByteArray × ByteArray))) (k : Bool → Option Res) : Option Res :=
  bif ((a0.length : Int) != (a1.length : Int)) then
    k false
  else
    loopK laws_eqRangeS_b0 Fuel (a0, a1, false, (0 : Int)) (Sum.elim (fun z1 =>
      k z1.2.2.1) (fun _ =>
      k true))

theorem laws_eqRangeS_p (a0 : (List (ByteArray × ByteArray))) (a1 : (List (ByteArray × ByteArray))) : Par (laws_eqRangeS_k a0 a1) := by
  unfold laws_eqRangeS_k
  exact (par_bif (par_ret _) ((par_loop laws_eqRangeS_bp0 Fuel (a0, a1, false, (0 : Int))).bind2 (fun z1 => (par_ret _)) (fun z2 => (par_ret _))))

def laws_eqWrite_k (a0 : ByteArray) (a1 : ByteArray) (a2 : Bool) (a3 : ByteArray) (a4 : ByteArray) (a5 : Bool) (k : Bool → Option Res) : Option Res :=
  bif (!(a0.toList == a3.toList)) then
    k false
  else
    bif (!(a1.toList == a4.toList)) then
      k false
    else
      bif (!(a2 == a5)) then
        k false
      else
        k true

theorem laws_eqWrite_p (a0 : ByteArray) (a1 : ByteArray) (a2 : Bool) (a3 : ByteArray) (a4 : ByteArray) (a5 : Bool) : Par (laws_eqWrite_k a0 a1 a2 a3 a4 a5) := by
  unfold laws_eqWrite_k
  exact (par_bif (par_ret _) (par_bif (par_ret _) (par_bif (par_ret _) (par_ret _))))

def laws_eqWriteS_b0 (x : ((List (ByteArray × (ByteArray × Bool))) × (List (ByteArray × (ByteArray × Bool))) × Bool × Int)) (k : ((List (ByteArray × (ByteArray × Bool))) × (List (ByteArray × (ByteArray × Bool))) × Bool × Int) ⊕ (((List (ByteArray × (ByteArray × Bool))) × (List (ByteArray × (ByteArray × Bool))) × Bool × Int) ⊕ ((List (ByteArray × (ByteArray × Bool))) × (List (ByteArray × (ByteArray × Bool))) × Bool × Int)) → Option Res) : Option Res :=
    bif (decide (x.2.2.2 < (x.1.length : Int))) then
      if 0 ≤ x.2.2.2 ∧ x.2.2.2 < (x.1.length : Int) then
        if 0 ≤ x.2.2.2 ∧ x.2.2.2 < (x.2.1.length : Int) then
          laws_eqWrite_k ((rd (Ty.zero (.pair .str (.pair .str .bool))) x.1 x.2.2.2).1) ((rd (Ty.zero (.pair .str (.pair .str .bool))) x.1 x.2.2.2).2.1) ((rd (Ty.zero (.pair .str (.pair .str .bool))) x.1 x.2.2.2).2.2) ((rd (Ty.zero (.pair .str (.pair .str .bool))) x.2.1 x.2.2.2).1) ((rd (Ty.zero (.pair .str (.pair .str .bool))) x.2.1 x.2.2.2).2.1) ((rd (Ty.zero (.pair .str (.pair .str .bool))) x.2.1 x.2.2.2).2.2) (fun y3 =>
            bif (!y3) then
              k (.inr (.inl (x.1, x.2.1, false, x.2.2.2)))
            else
              k (.inl (x.1, x.2.1, x.2.2.1, (IntKind.wrap .i64 (x.2.2.2 + (1 : Int))))))
        else none
      else none
    else
      k (.inr (.inr (x.1, x.2.1, x.2.2.1, x.2.2.2)))

theorem laws_eqWriteS_bp0 (x : ((List (ByteArray × (ByteArray × Bool))) × (List (ByteArray × (ByteArray × Bool))) × Bool × Int)) : Par (laws_eqWriteS_b0 x) := by
  unfold laws_eqWriteS_b0
  exact (par_bif (par_ite (par_ite ((laws_eqWrite_p ((rd (Ty.zero (.pair .str (.pair .str .bool))) x.1 x.2.2.2).1) ((rd (Ty.zero (.pair .str (.pair .str .bool))) x.1 x.2.2.2).2.1) ((rd (Ty.zero (.pair .str (.pair .str .bool))) x.1 x.2.2.2).2.2) ((rd (Ty.zero (.pair .str (.pair .str .bool))) x.2.1 x.2.2.2).1) ((rd (Ty.zero (.pair .str (.pair .str .bool))) x.2.1 x.2.2.2).2.1) ((rd (Ty.zero (.pair .str (.pair .str .bool))) x.2.1 x.2.2.2).2.2)).bind fun y3 => (par_bif (par_ret _) (par_ret _))) par_none) par_none) (par_ret _))

def laws_eqWriteS_k (a0 : (List (ByteArray × (ByteArray × Bool)))) (a1 : (List (ByteArray × (ByteArray × Bool)))) (k : Bool → Option Res) : Option Res :=
  bif ((a0.length : Int) != (a1.length : Int)) then
    k false
  else
    loopK laws_eqWriteS_b0 Fuel (a0, a1, false, (0 : Int)) (Sum.elim (fun z1 =>
      k z1.2.2.1) (fun _ =>
      k true))

theorem laws_eqWriteS_p (a0 : (List (ByteArray × (ByteArray × Bool)))) (a1 : (List (ByteArray × (ByteArray × Bool)))) : Par (laws_eqWriteS_k a0 a1) := by
  unfold laws_eqWriteS_k
  exact (par_bif (par_ret _) ((par_loop laws_eqWriteS_bp0 Fuel (a0, a1, false, (0 : Int))).bind2 (fun z1 => (par_ret _)) (fun z2 => (par_ret _))))

def laws_eqTxn_k (a0 : Int) (a1 : Int) (a2 : Int) (a3 : Int) (a4 : (List (ByteArray × ByteArray))) (a5 : (List (ByteArray × (ByteArray × Bool)))) (a6 : Bool) (a7 : ByteArray) (a8 : Int) (a9 : Int) (a10 : Int) (a11 : Int) (a12 : (List (ByteArray × ByteArray))) (a13 : (List (ByteArray × (ByteArray × Bool)))) (a14 : Bool) (a15 : ByteArray) (k : Bool → Option Res) : Option Res :=
  bif (a0 != a8) then
    k false
  else
    bif (a1 != a9) then
      k false
    else
      bif (a2 != a10) then
        k false
      else
        bif (a3 != a11) then
          k false
        else
          laws_eqRangeS_k a4 a12 (fun y1 =>
            bif (!y1) then
              k false
            else
              laws_eqWriteS_k a5 a13 (fun y2 =>
                bif (!y2) then
                  k false
                else
                  bif (!(a6 == a14)) then
                    k false
                  else
                    bif (!(a7.toList == a15.toList)) then
                      k false
                    else
                      k true))

theorem laws_eqTxn_p (a0 : Int) (a1 : Int) (a2 : Int) (a3 : Int) (a4 : (List (ByteArray × ByteArray))) (a5 : (List (ByteArray × (ByteArray × Bool)))) (a6 : Bool) (a7 : ByteArray) (a8 : Int) (a9 : Int) (a10 : Int) (a11 : Int) (a12 : (List (ByteArray × ByteArray))) (a13 : (List (ByteArray × (ByteArray × Bool)))) (a14 : Bool) (a15 : ByteArray) : Par (laws_eqTxn_k a0 a1 a2 a3 a4 a5 a6 a7 a8 a9 a10 a11 a12 a13 a14 a15) := by
  unfold laws_eqTxn_k
  exact (par_bif (par_ret _) (par_bif (par_ret _) (par_bif (par_ret _) (par_bif (par_ret _) ((laws_eqRangeS_p a4 a12).bind fun y1 => (par_bif (par_ret _) ((laws_eqWriteS_p a5 a13).bind fun y2 => (par_bif (par_ret _) (par_bif (par_ret _) (par_bif (par_ret _) (par_ret _)))))))))))

def laws_FnExactBeside_k (a0 : Int) (a1 : Int) (a2 : Int) (a3 : Int) (a4 : (List (ByteArray × ByteArray))) (a5 : (List (ByteArray × (ByteArray × Bool)))) (a6 : Bool) (a7 : ByteArray) (a8 : Int) (a9 : Int) (a10 : Int) (a11 : Int) (a12 : (List (ByteArray × ByteArray))) (a13 : (List (ByteArray × (ByteArray × Bool)))) (a14 : Bool) (a15 : ByteArray) (k : Bool → Option Res) : Option Res :=
  laws_szTxn_k a0 a1 a2 a3 a4 a5 a6 a7 (1048576 : Int) (fun y1 =>
    bif (decide (y1 < (0 : Int))) then
      k true
    else
      laws_szTxn_k a8 a9 a10 a11 a12 a13 a14 a15 y1 (fun y2 =>
        bif (decide (y2 < (0 : Int))) then
          k true
        else
          laws_toTxn_k a0 a1 a2 a3 a4 a5 a6 a7 (fun y3 =>
            laws_toTxn_k a8 a9 a10 a11 a12 a13 a14 a15 (fun y4 =>
              spec_Beside_k y3.1 y3.2.1 y3.2.2.1 y3.2.2.2.1 y3.2.2.2.2.2.2.1 y3.2.2.2.2.2.2.2 y3.2.2.2.2.1 y3.2.2.2.2.2.1 y4.1 y4.2.1 y4.2.2.1 y4.2.2.2.1 y4.2.2.2.2.2.2.1 y4.2.2.2.2.2.2.2 y4.2.2.2.2.1 y4.2.2.2.2.2.1 (fun y5 =>
                laws_toTxn_k a0 a1 a2 a3 a4 a5 a6 a7 (fun y6 =>
                  laws_toTxn_k a8 a9 a10 a11 a12 a13 a14 a15 (fun y7 =>
                    impl_Beside_k y6.1 y6.2.1 y6.2.2.1 y6.2.2.2.1 y6.2.2.2.2.2.2.1 y6.2.2.2.2.2.2.2 y6.2.2.2.2.1 y6.2.2.2.2.2.1 y7.1 y7.2.1 y7.2.2.1 y7.2.2.2.1 y7.2.2.2.2.2.2.1 y7.2.2.2.2.2.2.2 y7.2.2.2.2.1 y7.2.2.2.2.2.1 (fun y8 =>
                      bif (!(y8 == y5)) then
                        k false
                      else
                        laws_toTxn_k a0 a1 a2 a3 a4 a5 a6 a7 (fun y9 =>
                          laws_eqTxn_k y6.1 y6.2.1 y6.2.2.1 y6.2.2.2.1 y6.2.2.2.2.2.2.1 y6.2.2.2.2.2.2.2 y6.2.2.2.2.1 y6.2.2.2.2.2.1 y9.1 y9.2.1 y9.2.2.1 y9.2.2.2.1 y9.2.2.2.2.2.2.1 y9.2.2.2.2.2.2.2 y9.2.2.2.2.1 y9.2.2.2.2.2.1 (fun y10 =>
                            bif (!y10) then
                              k false
                            else
                              laws_toTxn_k a8 a9 a10 a11 a12 a13 a14 a15 (fun y11 =>
                                laws_eqTxn_k y7.1 y7.2.1 y7.2.2.1 y7.2.2.2.1 y7.2.2.2.2.2.2.1 y7.2.2.2.2.2.2.2 y7.2.2.2.2.1 y7.2.2.2.2.2.1 y11.1 y11.2.1 y11.2.2.1 y11.2.2.2.1 y11.2.2.2.2.2.2.1 y11.2.2.2.2.2.2.2 y11.2.2.2.2.1 y11.2.2.2.2.2.1 (fun y12 =>
                                  bif (!y12) then
                                    k false
                                  else
                                    k true))))))))))))

theorem laws_FnExactBeside_p (a0 : Int) (a1 : Int) (a2 : Int) (a3 : Int) (a4 : (List (ByteArray × ByteArray))) (a5 : (List (ByteArray × (ByteArray × Bool)))) (a6 : Bool) (a7 : ByteArray) (a8 : Int) (a9 : Int) (a10 : Int) (a11 : Int) (a12 : (List (ByteArray × ByteArray))) (a13 : (List (ByteArray × (ByteArray × Bool)))) (a14 : Bool) (a15 : ByteArray) : Par (laws_FnExactBeside_k a0 a1 a2 a3 a4 a5 a6 a7 a8 a9 a10 a11 a12 a13 a14 a15) := by
  unfold laws_FnExactBeside_k
  exact ((laws_szTxn_p a0 a1 a2 a3 a4 a5 a6 a7 (1048576 : Int)).bind fun y1 => (par_bif (par_ret _) ((laws_szTxn_p a8 a9 a10 a11 a12 a13 a14 a15 y1).bind fun y2 => (par_bif (par_ret _) ((laws_toTxn_p a0 a1 a2 a3 a4 a5 a6 a7).bind fun y3 => ((laws_toTxn_p a8 a9 a10 a11 a12 a13 a14 a15).bind fun y4 => ((spec_Beside_p y3.1 y3.2.1 y3.2.2.1 y3.2.2.2.1 y3.2.2.2.2.2.2.1 y3.2.2.2.2.2.2.2 y3.2.2.2.2.1 y3.2.2.2.2.2.1 y4.1 y4.2.1 y4.2.2.1 y4.2.2.2.1 y4.2.2.2.2.2.2.1 y4.2.2.2.2.2.2.2 y4.2.2.2.2.1 y4.2.2.2.2.2.1).bind fun y5 => ((laws_toTxn_p a0 a1 a2 a3 a4 a5 a6 a7).bind fun y6 => ((laws_toTxn_p a8 a9 a10 a11 a12 a13 a14 a15).bind fun y7 => ((impl_Beside_p y6.1 y6.2.1 y6.2.2.1 y6.2.2.2.1 y6.2.2.2.2.2.2.1 y6.2.2.2.2.2.2.2 y6.2.2.2.2.1 y6.2.2.2.2.2.1 y7.1 y7.2.1 y7.2.2.1 y7.2.2.2.1 y7.2.2.2.2.2.2.1 y7.2.2.2.2.2.2.2 y7.2.2.2.2.1 y7.2.2.2.2.2.1).bind fun y8 => (par_bif (par_ret _) ((laws_toTxn_p a0 a1 a2 a3 a4 a5 a6 a7).bind fun y9 => ((laws_eqTxn_p y6.1 y6.2.1 y6.2.2.1 y6.2.2.2.1 y6.2.2.2.2.2.2.1 y6.2.2.2.2.2.2.2 y6.2.2.2.2.1 y6.2.2.2.2.2.1 y9.1 y9.2.1 y9.2.2.1 y9.2.2.2.1 y9.2.2.2.2.2.2.1 y9.2.2.2.2.2.2.2 y9.2.2.2.2.1 y9.2.2.2.2.2.1).bind fun y10 => (par_bif (par_ret _) ((laws_toTxn_p a8 a9 a10 a11 a12 a13 a14 a15).bind fun y11 => ((laws_eqTxn_p y7.1 y7.2.1 y7.2.2.1 y7.2.2.2.1 y7.2.2.2.2.2.2.1 y7.2.2.2.2.2.2.2 y7.2.2.2.2.1 y7.2.2.2.2.2.1 y11.1 y11.2.1 y11.2.2.1 y11.2.2.2.1 y11.2.2.2.2.2.2.1 y11.2.2.2.2.2.2.2 y11.2.2.2.2.1 y11.2.2.2.2.2.1).bind fun y12 => (par_bif (par_ret _) (par_ret _))))))))))))))))))

def laws_szRange_g : List AV → St → K1 → Option Res
  | [.agg [.str a0, .str a1], .int .i64 a2], [], k => laws_szRange_k a0 a1 a2 (fun (y : Int) => k (.int .i64 y) [])
  | _, _, _ => none

theorem laws_szRange_q (a0 : ByteArray) (a1 : ByteArray) (a2 : Int) : Par (fun k : AV × St → Option Res => laws_szRange_g [.agg [.str a0, .str a1], .int .i64 a2] [] (fun v s => k (v, s))) :=
  (laws_szRange_p a0 a1 a2).bind (H := fun (y : Int) (k : AV × St → Option Res) => (fun (y : Int) => k ((.int .i64 y : AV), ([] : St))) y) (fun y => par_ret _)

def laws_szRangeS_g : List AV → St → K1 → Option Res
  | [.lst (.pair .str .str) a0, .int .i64 a1], [], k => laws_szRangeS_k a0 a1 (fun (y : Int) => k (.int .i64 y) [])
  | _, _, _ => none

theorem laws_szRangeS_q (a0 : (List (ByteArray × ByteArray))) (a1 : Int) : Par (fun k : AV × St → Option Res => laws_szRangeS_g [.lst (.pair .str .str) a0, .int .i64 a1] [] (fun v s => k (v, s))) :=
  (laws_szRangeS_p a0 a1).bind (H := fun (y : Int) (k : AV × St → Option Res) => (fun (y : Int) => k ((.int .i64 y : AV), ([] : St))) y) (fun y => par_ret _)

def laws_szWrite_g : List AV → St → K1 → Option Res
  | [.agg [.str a0, .str a1, .bool a2], .int .i64 a3], [], k => laws_szWrite_k a0 a1 a2 a3 (fun (y : Int) => k (.int .i64 y) [])
  | _, _, _ => none

theorem laws_szWrite_q (a0 : ByteArray) (a1 : ByteArray) (a2 : Bool) (a3 : Int) : Par (fun k : AV × St → Option Res => laws_szWrite_g [.agg [.str a0, .str a1, .bool a2], .int .i64 a3] [] (fun v s => k (v, s))) :=
  (laws_szWrite_p a0 a1 a2 a3).bind (H := fun (y : Int) (k : AV × St → Option Res) => (fun (y : Int) => k ((.int .i64 y : AV), ([] : St))) y) (fun y => par_ret _)

def laws_szWriteS_g : List AV → St → K1 → Option Res
  | [.lst (.pair .str (.pair .str .bool)) a0, .int .i64 a1], [], k => laws_szWriteS_k a0 a1 (fun (y : Int) => k (.int .i64 y) [])
  | _, _, _ => none

theorem laws_szWriteS_q (a0 : (List (ByteArray × (ByteArray × Bool)))) (a1 : Int) : Par (fun k : AV × St → Option Res => laws_szWriteS_g [.lst (.pair .str (.pair .str .bool)) a0, .int .i64 a1] [] (fun v s => k (v, s))) :=
  (laws_szWriteS_p a0 a1).bind (H := fun (y : Int) (k : AV × St → Option Res) => (fun (y : Int) => k ((.int .i64 y : AV), ([] : St))) y) (fun y => par_ret _)

def laws_szTxn_g : List AV → St → K1 → Option Res
  | [.agg [.int .i64 a0, .int .i64 a1, .int .i64 a2, .int .i64 a3, .lst (.pair .str .str) a4, .lst (.pair .str (.pair .str .bool)) a5, .bool a6, .str a7], .int .i64 a8], [], k => laws_szTxn_k a0 a1 a2 a3 a4 a5 a6 a7 a8 (fun (y : Int) => k (.int .i64 y) [])
  | _, _, _ => none

theorem laws_szTxn_q (a0 : Int) (a1 : Int) (a2 : Int) (a3 : Int) (a4 : (List (ByteArray × ByteArray))) (a5 : (List (ByteArray × (ByteArray × Bool)))) (a6 : Bool) (a7 : ByteArray) (a8 : Int) : Par (fun k : AV × St → Option Res => laws_szTxn_g [.agg [.int .i64 a0, .int .i64 a1, .int .i64 a2, .int .i64 a3, .lst (.pair .str .str) a4, .lst (.pair .str (.pair .str .bool)) a5, .bool a6, .str a7], .int .i64 a8] [] (fun v s => k (v, s))) :=
  (laws_szTxn_p a0 a1 a2 a3 a4 a5 a6 a7 a8).bind (H := fun (y : Int) (k : AV × St → Option Res) => (fun (y : Int) => k ((.int .i64 y : AV), ([] : St))) y) (fun y => par_ret _)

def laws_toRange_g : List AV → St → K1 → Option Res
  | [.agg [.str a0, .str a1]], [], k => laws_toRange_k a0 a1 (fun (y : (ByteArray × ByteArray)) => k (.agg [.str y.1, .str y.2]) [])
  | _, _, _ => none

theorem laws_toRange_q (a0 : ByteArray) (a1 : ByteArray) : Par (fun k : AV × St → Option Res => laws_toRange_g [.agg [.str a0, .str a1]] [] (fun v s => k (v, s))) :=
  (laws_toRange_p a0 a1).bind (H := fun (y : (ByteArray × ByteArray)) (k : AV × St → Option Res) => (fun (y : (ByteArray × ByteArray)) => k ((.agg [.str y.1, .str y.2] : AV), ([] : St))) y) (fun y => par_ret _)

def laws_toRangeS_g : List AV → St → K1 → Option Res
  | [.lst (.pair .str .str) a0], [], k => laws_toRangeS_k a0 (fun (y : (List (ByteArray × ByteArray))) => k (.own 0) [.arr (.pair .str .str) y])
  | _, _, _ => none

theorem laws_toRangeS_q (a0 : (List (ByteArray × ByteArray))) : Par (fun k : AV × St → Option Res => laws_toRangeS_g [.lst (.pair .str .str) a0] [] (fun v s => k (v, s))) :=
  (laws_toRangeS_p a0).bind (H := fun (y : (List (ByteArray × ByteArray))) (k : AV × St → Option Res) => (fun (y : (List (ByteArray × ByteArray))) => k ((.own 0 : AV), ([.arr (.pair .str .str) y] : St))) y) (fun y => par_ret _)

def laws_toWrite_g : List AV → St → K1 → Option Res
  | [.agg [.str a0, .str a1, .bool a2]], [], k => laws_toWrite_k a0 a1 a2 (fun (y : (ByteArray × ByteArray × Bool)) => k (.agg [.str y.1, .str y.2.1, .bool y.2.2]) [])
  | _, _, _ => none

theorem laws_toWrite_q (a0 : ByteArray) (a1 : ByteArray) (a2 : Bool) : Par (fun k : AV × St → Option Res => laws_toWrite_g [.agg [.str a0, .str a1, .bool a2]] [] (fun v s => k (v, s))) :=
  (laws_toWrite_p a0 a1 a2).bind (H := fun (y : (ByteArray × ByteArray × Bool)) (k : AV × St → Option Res) => (fun (y : (ByteArray × ByteArray × Bool)) => k ((.agg [.str y.1, .str y.2.1, .bool y.2.2] : AV), ([] : St))) y) (fun y => par_ret _)

def laws_toWriteS_g : List AV → St → K1 → Option Res
  | [.lst (.pair .str (.pair .str .bool)) a0], [], k => laws_toWriteS_k a0 (fun (y : (List (ByteArray × (ByteArray × Bool)))) => k (.own 0) [.arr (.pair .str (.pair .str .bool)) y])
  | _, _, _ => none

theorem laws_toWriteS_q (a0 : (List (ByteArray × (ByteArray × Bool)))) : Par (fun k : AV × St → Option Res => laws_toWriteS_g [.lst (.pair .str (.pair .str .bool)) a0] [] (fun v s => k (v, s))) :=
  (laws_toWriteS_p a0).bind (H := fun (y : (List (ByteArray × (ByteArray × Bool)))) (k : AV × St → Option Res) => (fun (y : (List (ByteArray × (ByteArray × Bool)))) => k ((.own 0 : AV), ([.arr (.pair .str (.pair .str .bool)) y] : St))) y) (fun y => par_ret _)

def laws_toTxn_g : List AV → St → K1 → Option Res
  | [.agg [.int .i64 a0, .int .i64 a1, .int .i64 a2, .int .i64 a3, .lst (.pair .str .str) a4, .lst (.pair .str (.pair .str .bool)) a5, .bool a6, .str a7]], [], k => laws_toTxn_k a0 a1 a2 a3 a4 a5 a6 a7 (fun (y : (Int × Int × Int × Int × Bool × ByteArray × (List (ByteArray × ByteArray)) × (List (ByteArray × (ByteArray × Bool))))) => k (.agg [.int .i64 y.1, .int .i64 y.2.1, .int .i64 y.2.2.1, .int .i64 y.2.2.2.1, .own 0, .own 1, .bool y.2.2.2.2.1, .str y.2.2.2.2.2.1]) [.arr (.pair .str .str) y.2.2.2.2.2.2.1, .arr (.pair .str (.pair .str .bool)) y.2.2.2.2.2.2.2])
  | _, _, _ => none

theorem laws_toTxn_q (a0 : Int) (a1 : Int) (a2 : Int) (a3 : Int) (a4 : (List (ByteArray × ByteArray))) (a5 : (List (ByteArray × (ByteArray × Bool)))) (a6 : Bool) (a7 : ByteArray) : Par (fun k : AV × St → Option Res => laws_toTxn_g [.agg [.int .i64 a0, .int .i64 a1, .int .i64 a2, .int .i64 a3, .lst (.pair .str .str) a4, .lst (.pair .str (.pair .str .bool)) a5, .bool a6, .str a7]] [] (fun v s => k (v, s))) :=
  (laws_toTxn_p a0 a1 a2 a3 a4 a5 a6 a7).bind (H := fun (y : (Int × Int × Int × Int × Bool × ByteArray × (List (ByteArray × ByteArray)) × (List (ByteArray × (ByteArray × Bool))))) (k : AV × St → Option Res) => (fun (y : (Int × Int × Int × Int × Bool × ByteArray × (List (ByteArray × ByteArray)) × (List (ByteArray × (ByteArray × Bool))))) => k ((.agg [.int .i64 y.1, .int .i64 y.2.1, .int .i64 y.2.2.1, .int .i64 y.2.2.2.1, .own 0, .own 1, .bool y.2.2.2.2.1, .str y.2.2.2.2.2.1] : AV), ([.arr (.pair .str .str) y.2.2.2.2.2.2.1, .arr (.pair .str (.pair .str .bool)) y.2.2.2.2.2.2.2] : St))) y) (fun y => par_ret _)

def spec_Beside_g : List AV → St → K1 → Option Res
  | [.agg [.int .i64 a0, .int .i64 a1, .int .i64 a2, .int .i64 a3, .lst (.pair .str .str) a4, .lst (.pair .str (.pair .str .bool)) a5, .bool a6, .str a7], .agg [.int .i64 a8, .int .i64 a9, .int .i64 a10, .int .i64 a11, .lst (.pair .str .str) a12, .lst (.pair .str (.pair .str .bool)) a13, .bool a14, .str a15]], [], k => spec_Beside_k a0 a1 a2 a3 a4 a5 a6 a7 a8 a9 a10 a11 a12 a13 a14 a15 (fun (y : Bool) => k (.bool y) [])
  | _, _, _ => none

theorem spec_Beside_q (a0 : Int) (a1 : Int) (a2 : Int) (a3 : Int) (a4 : (List (ByteArray × ByteArray))) (a5 : (List (ByteArray × (ByteArray × Bool)))) (a6 : Bool) (a7 : ByteArray) (a8 : Int) (a9 : Int) (a10 : Int) (a11 : Int) (a12 : (List (ByteArray × ByteArray))) (a13 : (List (ByteArray × (ByteArray × Bool)))) (a14 : Bool) (a15 : ByteArray) : Par (fun k : AV × St → Option Res => spec_Beside_g [.agg [.int .i64 a0, .int .i64 a1, .int .i64 a2, .int .i64 a3, .lst (.pair .str .str) a4, .lst (.pair .str (.pair .str .bool)) a5, .bool a6, .str a7], .agg [.int .i64 a8, .int .i64 a9, .int .i64 a10, .int .i64 a11, .lst (.pair .str .str) a12, .lst (.pair .str (.pair .str .bool)) a13, .bool a14, .str a15]] [] (fun v s => k (v, s))) :=
  (spec_Beside_p a0 a1 a2 a3 a4 a5 a6 a7 a8 a9 a10 a11 a12 a13 a14 a15).bind (H := fun (y : Bool) (k : AV × St → Option Res) => (fun (y : Bool) => k ((.bool y : AV), ([] : St))) y) (fun y => par_ret _)

def impl_Beside_1_g : List AV → St → K1 → Option Res
  | [.agg [.int .i64 a0, .int .i64 a1, .int .i64 a2, .int .i64 a3, .lst (.pair .str .str) a4, .lst (.pair .str (.pair .str .bool)) a5, .bool a6, .str a7], .agg [.int .i64 a8, .int .i64 a9, .int .i64 a10, .int .i64 a11, .lst (.pair .str .str) a12, .lst (.pair .str (.pair .str .bool)) a13, .bool a14, .str a15]], [], k => impl_Beside_1_k a0 a1 a2 a3 a4 a5 a6 a7 a8 a9 a10 a11 a12 a13 a14 a15 (fun (y : Bool) => k (.bool y) [])
  | _, _, _ => none

theorem impl_Beside_1_q (a0 : Int) (a1 : Int) (a2 : Int) (a3 : Int) (a4 : (List (ByteArray × ByteArray))) (a5 : (List (ByteArray × (ByteArray × Bool)))) (a6 : Bool) (a7 : ByteArray) (a8 : Int) (a9 : Int) (a10 : Int) (a11 : Int) (a12 : (List (ByteArray × ByteArray))) (a13 : (List (ByteArray × (ByteArray × Bool)))) (a14 : Bool) (a15 : ByteArray) : Par (fun k : AV × St → Option Res => impl_Beside_1_g [.agg [.int .i64 a0, .int .i64 a1, .int .i64 a2, .int .i64 a3, .lst (.pair .str .str) a4, .lst (.pair .str (.pair .str .bool)) a5, .bool a6, .str a7], .agg [.int .i64 a8, .int .i64 a9, .int .i64 a10, .int .i64 a11, .lst (.pair .str .str) a12, .lst (.pair .str (.pair .str .bool)) a13, .bool a14, .str a15]] [] (fun v s => k (v, s))) :=
  (impl_Beside_1_p a0 a1 a2 a3 a4 a5 a6 a7 a8 a9 a10 a11 a12 a13 a14 a15).bind (H := fun (y : Bool) (k : AV × St → Option Res) => (fun (y : Bool) => k ((.bool y : AV), ([] : St))) y) (fun y => par_ret _)

def impl_Beside_g : List AV → St → K1 → Option Res
  | [.agg [.int .i64 a0, .int .i64 a1, .int .i64 a2, .int .i64 a3, .lst (.pair .str .str) a4, .lst (.pair .str (.pair .str .bool)) a5, .bool a6, .str a7], .agg [.int .i64 a8, .int .i64 a9, .int .i64 a10, .int .i64 a11, .lst (.pair .str .str) a12, .lst (.pair .str (.pair .str .bool)) a13, .bool a14, .str a15]], [], k => impl_Beside_k a0 a1 a2 a3 a4 a5 a6 a7 a8 a9 a10 a11 a12 a13 a14 a15 (fun (y : Bool) => k (.bool y) [])
  | _, _, _ => none

theorem impl_Beside_q (a0 : Int) (a1 : Int) (a2 : Int) (a3 : Int) (a4 : (List (ByteArray × ByteArray))) (a5 : (List (ByteArray × (ByteArray × Bool)))) (a6 : Bool) (a7 : ByteArray) (a8 : Int) (a9 : Int) (a10 : Int) (a11 : Int) (a12 : (List (ByteArray × ByteArray))) (a13 : (List (ByteArray × (ByteArray × Bool)))) (a14 : Bool) (a15 : ByteArray) : Par (fun k : AV × St → Option Res => impl_Beside_g [.agg [.int .i64 a0, .int .i64 a1, .int .i64 a2, .int .i64 a3, .lst (.pair .str .str) a4, .lst (.pair .str (.pair .str .bool)) a5, .bool a6, .str a7], .agg [.int .i64 a8, .int .i64 a9, .int .i64 a10, .int .i64 a11, .lst (.pair .str .str) a12, .lst (.pair .str (.pair .str .bool)) a13, .bool a14, .str a15]] [] (fun v s => k (v, s))) :=
  (impl_Beside_p a0 a1 a2 a3 a4 a5 a6 a7 a8 a9 a10 a11 a12 a13 a14 a15).bind (H := fun (y : Bool) (k : AV × St → Option Res) => (fun (y : Bool) => k ((.bool y : AV), ([] : St))) y) (fun y => par_ret _)

def laws_eqRange_g : List AV → St → K1 → Option Res
  | [.agg [.str a0, .str a1], .agg [.str a2, .str a3]], [], k => laws_eqRange_k a0 a1 a2 a3 (fun (y : Bool) => k (.bool y) [])
  | _, _, _ => none

theorem laws_eqRange_q (a0 : ByteArray) (a1 : ByteArray) (a2 : ByteArray) (a3 : ByteArray) : Par (fun k : AV × St → Option Res => laws_eqRange_g [.agg [.str a0, .str a1], .agg [.str a2, .str a3]] [] (fun v s => k (v, s))) :=
  (laws_eqRange_p a0 a1 a2 a3).bind (H := fun (y : Bool) (k : AV × St → Option Res) => (fun (y : Bool) => k ((.bool y : AV), ([] : St))) y) (fun y => par_ret _)

def laws_eqRangeS_g : List AV → St → K1 → Option Res
  | [.lst (.pair .str .str) a0, .lst (.pair .str .str) a1], [], k => laws_eqRangeS_k a0 a1 (fun (y : Bool) => k (.bool y) [])
  | _, _, _ => none

theorem laws_eqRangeS_q (a0 : (List (ByteArray × ByteArray))) (a1 : (List (ByteArray × ByteArray))) : Par (fun k : AV × St → Option Res => laws_eqRangeS_g [.lst (.pair .str .str) a0, .lst (.pair .str .str) a1] [] (fun v s => k (v, s))) :=
  (laws_eqRangeS_p a0 a1).bind (H := fun (y : Bool) (k : AV × St → Option Res) => (fun (y : Bool) => k ((.bool y : AV), ([] : St))) y) (fun y => par_ret _)

def laws_eqWrite_g : List AV → St → K1 → Option Res
  | [.agg [.str a0, .str a1, .bool a2], .agg [.str a3, .str a4, .bool a5]], [], k => laws_eqWrite_k a0 a1 a2 a3 a4 a5 (fun (y : Bool) => k (.bool y) [])
  | _, _, _ => none

theorem laws_eqWrite_q (a0 : ByteArray) (a1 : ByteArray) (a2 : Bool) (a3 : ByteArray) (a4 : ByteArray) (a5 : Bool) : Par (fun k : AV × St → Option Res => laws_eqWrite_g [.agg [.str a0, .str a1, .bool a2], .agg [.str a3, .str a4, .bool a5]] [] (fun v s => k (v, s))) :=
  (laws_eqWrite_p a0 a1 a2 a3 a4 a5).bind (H := fun (y : Bool) (k : AV × St → Option Res) => (fun (y : Bool) => k ((.bool y : AV), ([] : St))) y) (fun y => par_ret _)

def laws_eqWriteS_g : List AV → St → K1 → Option Res
  | [.lst (.pair .str (.pair .str .bool)) a0, .lst (.pair .str (.pair .str .bool)) a1], [], k => laws_eqWriteS_k a0 a1 (fun (y : Bool) => k (.bool y) [])
  | _, _, _ => none

theorem laws_eqWriteS_q (a0 : (List (ByteArray × (ByteArray × Bool)))) (a1 : (List (ByteArray × (ByteArray × Bool)))) : Par (fun k : AV × St → Option Res => laws_eqWriteS_g [.lst (.pair .str (.pair .str .bool)) a0, .lst (.pair .str (.pair .str .bool)) a1] [] (fun v s => k (v, s))) :=
  (laws_eqWriteS_p a0 a1).bind (H := fun (y : Bool) (k : AV × St → Option Res) => (fun (y : Bool) => k ((.bool y : AV), ([] : St))) y) (fun y => par_ret _)

def laws_eqTxn_g : List AV → St → K1 → Option Res
  | [.agg [.int .i64 a0, .int .i64 a1, .int .i64 a2, .int .i64 a3, .lst (.pair .str .str) a4, .lst (.pair .str (.pair .str .bool)) a5, .bool a6, .str a7], .agg [.int .i64 a8, .int .i64 a9, .int .i64 a10, .int .i64 a11, .lst (.pair .str .str) a12, .lst (.pair .str (.pair .str .bool)) a13, .bool a14, .str a15]], [], k => laws_eqTxn_k a0 a1 a2 a3 a4 a5 a6 a7 a8 a9 a10 a11 a12 a13 a14 a15 (fun (y : Bool) => k (.bool y) [])
  | _, _, _ => none

theorem laws_eqTxn_q (a0 : Int) (a1 : Int) (a2 : Int) (a3 : Int) (a4 : (List (ByteArray × ByteArray))) (a5 : (List (ByteArray × (ByteArray × Bool)))) (a6 : Bool) (a7 : ByteArray) (a8 : Int) (a9 : Int) (a10 : Int) (a11 : Int) (a12 : (List (ByteArray × ByteArray))) (a13 : (List (ByteArray × (ByteArray × Bool)))) (a14 : Bool) (a15 : ByteArray) : Par (fun k : AV × St → Option Res => laws_eqTxn_g [.agg [.int .i64 a0, .int .i64 a1, .int .i64 a2, .int .i64 a3, .lst (.pair .str .str) a4, .lst (.pair .str (.pair .str .bool)) a5, .bool a6, .str a7], .agg [.int .i64 a8, .int .i64 a9, .int .i64 a10, .int .i64 a11, .lst (.pair .str .str) a12, .lst (.pair .str (.pair .str .bool)) a13, .bool a14, .str a15]] [] (fun v s => k (v, s))) :=
  (laws_eqTxn_p a0 a1 a2 a3 a4 a5 a6 a7 a8 a9 a10 a11 a12 a13 a14 a15).bind (H := fun (y : Bool) (k : AV × St → Option Res) => (fun (y : Bool) => k ((.bool y : AV), ([] : St))) y) (fun y => par_ret _)

def laws_FnExactBeside_g : List AV → St → K1 → Option Res
  | [.agg [.int .i64 a0, .int .i64 a1, .int .i64 a2, .int .i64 a3, .lst (.pair .str .str) a4, .lst (.pair .str (.pair .str .bool)) a5, .bool a6, .str a7], .agg [.int .i64 a8, .int .i64 a9, .int .i64 a10, .int .i64 a11, .lst (.pair .str .str) a12, .lst (.pair .str (.pair .str .bool)) a13, .bool a14, .str a15]], [], k => laws_FnExactBeside_k a0 a1 a2 a3 a4 a5 a6 a7 a8 a9 a10 a11 a12 a13 a14 a15 (fun (y : Bool) => k (.bool y) [])
  | _, _, _ => none

theorem laws_FnExactBeside_q (a0 : Int) (a1 : Int) (a2 : Int) (a3 : Int) (a4 : (List (ByteArray × ByteArray))) (a5 : (List (ByteArray × (ByteArray × Bool)))) (a6 : Bool) (a7 : ByteArray) (a8 : Int) (a9 : Int) (a10 : Int) (a11 : Int) (a12 : (List (ByteArray × ByteArray))) (a13 : (List (ByteArray × (ByteArray × Bool)))) (a14 : Bool) (a15 : ByteArray) : Par (fun k : AV × St → Option Res => laws_FnExactBeside_g [.agg [.int .i64 a0, .int .i64 a1, .int .i64 a2, .int .i64 a3, .lst (.pair .str .str) a4, .lst (.pair .str (.pair .str .bool)) a5, .bool a6, .str a7], .agg [.int .i64 a8, .int .i64 a9, .int .i64 a10, .int .i64 a11, .lst (.pair .str .str) a12, .lst (.pair .str (.pair .str .bool)) a13, .bool a14, .str a15]] [] (fun v s => k (v, s))) :=
  (laws_FnExactBeside_p a0 a1 a2 a3 a4 a5 a6 a7 a8 a9 a10 a11 a12 a13 a14 a15).bind (H := fun (y : Bool) (k : AV × St → Option Res) => (fun (y : Bool) => k ((.bool y : AV), ([] : St))) y) (fun y => par_ret _)

end

end Go.VE
