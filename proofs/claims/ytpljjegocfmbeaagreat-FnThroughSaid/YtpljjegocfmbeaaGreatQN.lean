/- Native programs of the functions, written by gen2.py. -/

import Derived.Test.YtpljjegocfmbeaaGreatT0
import Derived.Test.YtpljjegocfmbeaaGreatX9

namespace Go.VE

noncomputable section

set_option linter.unusedVariables false
set_option linter.unusedSimpArgs false
set_option maxRecDepth 100000


def laws_big_k : FN (List Int) Bool := fn fun x k =>
  k (decide ((x.length : Int) > (1048576 : Int)))

def spec_l01New_b0 : LB (List Int) (Int × Int) ((Int × Int) ⊕ (Int × Int)) := lb fun u x k =>
    bif (decide (x.2 < (u.length : Int))) then
      bif (decide (x.2 < (4000 : Int))) then
        if 0 ≤ x.2 ∧ x.2 < (u.length : Int) then
          k (.inl ((W (BitVec.ofInt (IntKind.bits .i64) (W ((W ((W (x.1 * (131 : Int))) + (W (rd (0 : Int) u x.2)))) + (7 : Int))) &&& BitVec.ofInt (IntKind.bits .i64) (1073741823 : Int)).toNat), (W (x.2 + (1 : Int)))))
        else none
      else
        k (.inr (x.1, x.2))
    else
      k (.inr (x.1, x.2))

def spec_l01New_k : FN (List Int) ((List Int) × (Int × Int)) := fn fun x k =>
  lpK spec_l01New_b0 x ((W ((77601 : Int) + (x.length : Int))), (0 : Int)) (fun z1 =>
    k (x, ((0 : Int), z1.1)))

def spec_l01Byte_k : FN ((List Int) × (Int × Int)) (Int × ((List Int) × (Int × Int))) := fn fun x k =>
  let t0 := (W (BitVec.ofInt (IntKind.bits .i64) (W (BitVec.ofInt (IntKind.bits .i64) ((W ((W (x.2.2 * (6364136223846793005 : Int))) + (1442695040888963407 : Int))).fdiv (8589934592 : Int)) ^^^ BitVec.ofInt (IntKind.bits .i64) ((W ((W (x.2.2 * (6364136223846793005 : Int))) + (1442695040888963407 : Int))).fdiv (35184372088832 : Int))).toNat) &&& BitVec.ofInt (IntKind.bits .i64) (255 : Int)).toNat)
  bif (decide (x.2.1 < (x.1.length : Int))) then
    if 0 ≤ x.2.1 ∧ x.2.1 < (x.1.length : Int) then
      k ((W (BitVec.ofInt (IntKind.bits .i64) (W (t0 + (W (rd (0 : Int) x.1 x.2.1)))) &&& BitVec.ofInt (IntKind.bits .i64) (255 : Int)).toNat), (x.1, ((W (x.2.1 + (1 : Int))), (W ((W (x.2.2 * (6364136223846793005 : Int))) + (1442695040888963407 : Int))))))
    else none
  else
    k (t0, (x.1, (x.2.1, (W ((W (x.2.2 * (6364136223846793005 : Int))) + (1442695040888963407 : Int))))))

def spec_l01Below_k : FN (Int × ((List Int) × (Int × Int))) (Int × ((List Int) × (Int × Int))) := fn fun x k =>
  bif (decide (x.1 ≤ (0 : Int))) then
    k ((0 : Int), x.2)
  else
    bif (decide (x.1 ≤ (256 : Int))) then
      spec_l01Byte_k x.2 (fun y1 =>
        if x.1 = 0 then none else
          k ((y1.1.tmod x.1), y1.2))
    else
      spec_l01Byte_k x.2 (fun y2 =>
        spec_l01Byte_k y2.2 (fun y3 =>
          spec_l01Byte_k y3.2 (fun y4 =>
            spec_l01Byte_k y4.2 (fun y5 =>
              if x.1 = 0 then none else
                k (((W ((W ((W ((W (y2.1 * (16777216 : Int))) + (W (y3.1 * (65536 : Int))))) + (W (y4.1 * (256 : Int))))) + y5.1)).tmod x.1), y5.2)))))

def spec_l01Pick_k : FN ((List ByteArray) × ((List Int) × (Int × Int))) (ByteArray × ((List Int) × (Int × Int))) := fn fun x k =>
  spec_l01Below_k ((x.1.length : Int), x.2) (fun y1 =>
    if 0 ≤ y1.1 ∧ y1.1 < (x.1.length : Int) then
      k ((rd zStr x.1 y1.1), y1.2)
    else none)

def spec_l05Key_k : FN ((List Int) × (Int × Int)) (ByteArray × ((List Int) × (Int × Int))) := fn fun x k =>
  spec_l01Pick_k ([(⟨#[97]⟩ : ByteArray), (⟨#[98]⟩ : ByteArray), (⟨#[99]⟩ : ByteArray), (⟨#[100]⟩ : ByteArray), (⟨#[97, 98]⟩ : ByteArray)], x) (fun y1 =>
    k (y1.1, y1.2))

def spec_l01Once_k : FN (Int × ((List Int) × (Int × Int))) (Bool × ((List Int) × (Int × Int))) := fn fun x k =>
  spec_l01Below_k (x.1, x.2) (fun y1 =>
    k ((y1.1 == (0 : Int)), y1.2))

def spec_l05Range_k : FN ((List Int) × (Int × Int)) (dRange × ((List Int) × (Int × Int))) := fn fun x k =>
  spec_l05Key_k x (fun y1 =>
    spec_l01Once_k ((2 : Int), y1.2) (fun y2 =>
      bif y2.1 then
        k ((y1.1, y1.1), y2.2)
      else
        spec_l05Key_k y2.2 (fun y3 =>
          bif (strLess y3.1 y1.1) then
            k ((y3.1, y1.1), y3.2)
          else
            k ((y1.1, y3.1), y3.2))))

def spec_l05Ranges_b0 : LB Unit (Int × ((List Int) × (Int × Int)) × (List dRange)) ((Int × ((List Int) × (Int × Int)) × (List dRange)) ⊕ (Int × ((List Int) × (Int × Int)) × (List dRange))) := lb fun _ x k =>
    spec_l01Below_k ((4 : Int), x.2.1) (fun y2 =>
      bif (decide (x.1 < y2.1)) then
        spec_l05Range_k y2.2 (fun y3 =>
          if x.2.2.length + [y3.1].length ≤ maxLen then
            k (.inl ((W (x.1 + (1 : Int))), y3.2, (x.2.2 ++ [y3.1])))
          else none)
      else
        k (.inr (x.1, y2.2, x.2.2)))

def spec_l05Ranges_k : FN ((List Int) × (Int × Int)) (((List Int) × (Int × Int)) × (List dRange)) := fn fun x k =>
  lpK spec_l05Ranges_b0 () ((0 : Int), x, ([] : List dRange)) (fun z1 =>
    k (z1.2.1, z1.2.2))

def spec_l05Write_k : FN ((List Int) × (Int × Int)) (dWrite × ((List Int) × (Int × Int))) := fn fun x k =>
  spec_l05Key_k x (fun y1 =>
    spec_l01Pick_k ([(⟨#[111, 110, 101]⟩ : ByteArray), (⟨#[116, 119, 111]⟩ : ByteArray), (⟨#[]⟩ : ByteArray), (⟨#[120, 0]⟩ : ByteArray)], y1.2) (fun y2 =>
      spec_l01Once_k ((5 : Int), y2.2) (fun y3 =>
        bif y3.1 then
          k ((y1.1, ((⟨#[]⟩ : ByteArray), true)), y3.2)
        else
          k ((y1.1, (y2.1, false)), y3.2))))

def spec_PutWrite_b0 : LB ((List dWrite) × dWrite) (Int × (List dWrite)) ((Int × (List dWrite)) ⊕ (Int × (List dWrite))) := lb fun u x k =>
    bif (decide (x.1 < (u.1.length : Int))) then
      if 0 ≤ x.1 ∧ x.1 < (u.1.length : Int) then
        bif (strLess ((rd zWrite u.1 x.1).1) u.2.1) then
          if 0 ≤ x.1 ∧ x.1 < (u.1.length : Int) then
            if x.2.length + [(rd zWrite u.1 x.1)].length ≤ maxLen then
              k (.inl ((W (x.1 + (1 : Int))), (x.2 ++ [(rd zWrite u.1 x.1)])))
            else none
          else none
        else
          k (.inl ((W (x.1 + (1 : Int))), x.2))
      else none
    else
      k (.inr (x.1, x.2))

def spec_PutWrite_b2 : LB ((List dWrite) × dWrite) (Int × (List dWrite)) ((Int × (List dWrite)) ⊕ (Int × (List dWrite))) := lb fun u x k =>
    bif (decide (x.1 < (u.1.length : Int))) then
      if 0 ≤ x.1 ∧ x.1 < (u.1.length : Int) then
        bif (!((strLess ((rd zWrite u.1 x.1).1) u.2.1) || (strEq ((rd zWrite u.1 x.1).1) u.2.1))) then
          if 0 ≤ x.1 ∧ x.1 < (u.1.length : Int) then
            if x.2.length + [(rd zWrite u.1 x.1)].length ≤ maxLen then
              k (.inl ((W (x.1 + (1 : Int))), (x.2 ++ [(rd zWrite u.1 x.1)])))
            else none
          else none
        else
          k (.inl ((W (x.1 + (1 : Int))), x.2))
      else none
    else
      k (.inr (x.1, x.2))

def spec_PutWrite_k : FN ((List dWrite) × dWrite) (List dWrite) := fn fun x k =>
  lpK spec_PutWrite_b0 (x.1, x.2) ((0 : Int), ([] : List dWrite)) (fun z1 =>
    if z1.2.length + [x.2].length ≤ maxLen then
      lpK spec_PutWrite_b2 (x.1, x.2) ((0 : Int), (z1.2 ++ [x.2])) (fun z2 =>
        k z2.2)
    else none)

def spec_l05Writes_b0 : LB Unit ((List dWrite) × Int × ((List Int) × (Int × Int))) (((List dWrite) × Int × ((List Int) × (Int × Int))) ⊕ ((List dWrite) × Int × ((List Int) × (Int × Int)))) := lb fun _ x k =>
    spec_l01Below_k ((4 : Int), x.2.2) (fun y2 =>
      bif (decide (x.2.1 < y2.1)) then
        spec_l05Write_k y2.2 (fun y3 =>
          spec_PutWrite_k (x.1, y3.1) (fun y4 =>
            k (.inl (y4, (W (x.2.1 + (1 : Int))), y3.2))))
      else
        k (.inr (x.1, x.2.1, y2.2)))

def spec_l05Writes_k : FN ((List Int) × (Int × Int)) ((List dWrite) × ((List Int) × (Int × Int))) := fn fun x k =>
  lpK spec_l05Writes_b0 () (([] : List dWrite), (0 : Int), x) (fun z1 =>
    k (z1.1, z1.2.2))

def spec_BaseNew_k : FN Unit (Int × Int) := fn fun _ k =>
  k ((0 : Int), (1 : Int))

def spec_EngineNew_k : FN Unit (Int × Int) := fn fun _ k =>
  spec_BaseNew_k () (fun y1 =>
    k (y1.1, y1.2))

def spec_l04Sectors_k : FN Unit Int := fn fun _ k =>
  k (97 : Int)

def spec_l01In_k : FN (Int × Int × Int) Bool := fn fun x k =>
  bif (decide (x.1 ≥ x.2.1)) then
    k (decide (x.1 ≤ x.2.2))
  else
    k false

def spec_l01Long_b0 : LB (Int × Int) (Int × (List Int)) ((Int × (List Int)) ⊕ (Int × (List Int))) := lb fun u x k =>
    bif (decide (x.1 < u.1)) then
      if 0 ≤ x.1 ∧ x.1 < (x.2.length : Int) then
        k (.inl ((W (x.1 + (1 : Int))), (x.2.set x.1.toNat u.2)))
      else none
    else
      k (.inr (x.1, x.2))

def spec_l01Long_k : FN (Int × Int) ByteArray := fn fun x k =>
  if 0 ≤ x.1 ∧ x.1 ≤ x.1 ∧ x.1 ≤ mL then
    lpK spec_l01Long_b0 (x.1, x.2) ((0 : Int), (List.replicate x.1.toNat (0 : Int))) (fun z1 =>
      k (bytesOf z1.2))
  else none

def spec_l03Zero_k : FN Unit ByteArray := fn fun _ k =>
  spec_l01Long_k ((64 : Int), (0 : Int)) (fun y1 =>
    k y1)

def spec_DiskNew_b0 : LB Int (Int × (List ByteArray)) ((Int × (List ByteArray)) ⊕ (Int × (List ByteArray))) := lb fun u x k =>
    bif (decide (x.1 < u)) then
      spec_l03Zero_k () (fun y3 =>
        if x.2.length + [y3].length ≤ maxLen then
          k (.inl ((W (x.1 + (1 : Int))), (x.2 ++ [y3])))
        else none)
    else
      k (.inr (x.1, x.2))

def spec_DiskNew_k : FN Int ((List ByteArray) × Bool) := fn fun x k =>
  spec_l01In_k (x, (1 : Int), (100 : Int)) (fun y1 =>
    bif (!y1) then
      k (([] : List ByteArray), false)
    else
      lpK spec_DiskNew_b0 x ((0 : Int), ([] : List ByteArray)) (fun z2 =>
        k (z2.2, true)))

def spec_LogNew_k : FN Unit (List ByteArray) := fn fun _ k =>
  spec_l04Sectors_k () (fun y1 =>
    spec_DiskNew_k y1 (fun y2 =>
      k y2.1))

def spec_StoreNew_k : FN Unit (Int × Int × (List ByteArray)) := fn fun _ k =>
  spec_EngineNew_k () (fun y1 =>
    spec_LogNew_k () (fun y2 =>
      k (y1.1, y1.2, y2)))

def spec_l07Copy_k : FN dTxn (Int × Int × Int × Int × Bool × ByteArray × (List dRange) × (List dWrite)) := fn fun x k =>
  let xh := x.2.2.2.2
  if ([] : List dRange).length + xh.1.length ≤ maxLen then
    if ([] : List dWrite).length + xh.2.1.length ≤ maxLen then
      k (x.1, x.2.1, x.2.2.1, x.2.2.2.1, xh.2.2.1, xh.2.2.2, (([] : List dRange) ++ xh.1), (([] : List dWrite) ++ xh.2.1))
    else none
  else none

def spec_l09Txns_b0 : LB (List dTxn) (Int × (List dTxn)) ((Int × (List dTxn)) ⊕ (Int × (List dTxn))) := lb fun u x k =>
    bif (decide (x.1 < (u.length : Int))) then
      if 0 ≤ x.1 ∧ x.1 < (u.length : Int) then
        spec_l07Copy_k (rd zTxn u x.1) (fun y2 =>
          let y2h := y2.2.2.2.2
          if x.2.length + [(y2.1, (y2.2.1, (y2.2.2.1, (y2.2.2.2.1, (y2h.2.2.1, (y2h.2.2.2, (y2h.1, y2h.2.1)))))))].length ≤ maxLen then
            k (.inl ((W (x.1 + (1 : Int))), (x.2 ++ [(y2.1, (y2.2.1, (y2.2.2.1, (y2.2.2.2.1, (y2h.2.2.1, (y2h.2.2.2, (y2h.1, y2h.2.1)))))))])))
          else none)
      else none
    else
      k (.inr (x.1, x.2))

def spec_l09Txns_k : FN (List dTxn) (List dTxn) := fn fun x k =>
  lpK spec_l09Txns_b0 x ((0 : Int), ([] : List dTxn)) (fun z1 =>
    k z1.2)

def spec_l09Copy_k : FN dBase (Int × Int × (List dVersion) × (List dTxn) × (List dTxn)) := fn fun x k =>
  if ([] : List dVersion).length + x.1.length ≤ maxLen then
    spec_l09Txns_k x.2.1 (fun y1 =>
      spec_l09Txns_k x.2.2.1 (fun y2 =>
        k (x.2.2.2.1, x.2.2.2.2, (([] : List dVersion) ++ x.1), y1, y2)))
  else none

def spec_l11Copy_k : FN dEngine (Int × Int × (List dVersion) × (List dTxn) × (List dTxn) × (List dTxn)) := fn fun x k =>
  spec_l09Copy_k x.1 (fun y1 =>
    spec_l09Txns_k x.2 (fun y2 =>
      k (y1.1, y1.2.1, y1.2.2.1, y1.2.2.2.1, y1.2.2.2.2, y2)))

def spec_KeyOk_b0 : LB ByteArray Int (Int ⊕ (Int ⊕ Int)) := lb fun u x k =>
    bif (decide (x < (u.size : Int))) then
      if 0 ≤ x ∧ x < (u.size : Int) then
        bif (decide ((bt u x) < (97 : Int))) then
          k (.inr (.inl x))
        else
          if 0 ≤ x ∧ x < (u.size : Int) then
            bif (decide ((bt u x) > (122 : Int))) then
              k (.inr (.inl x))
            else
              k (.inl (W (x + (1 : Int))))
          else none
      else none
    else
      k (.inr (.inr x))

def spec_KeyOk_k : FN ByteArray Bool := fn fun x k =>
  lpK spec_KeyOk_b0 x (0 : Int) (Sum.elim (fun _ =>
    k false) (fun _ =>
    spec_l01In_k ((x.size : Int), (1 : Int), (3 : Int)) (fun y3 =>
      k y3)))

def spec_VersionsOk_b0 : LB (List dVersion) Int (Int ⊕ (Int ⊕ Int)) := lb fun u x k =>
    let t0 := (W (x - (1 : Int)))
    let t1 := (strEq ((rd zVersion u t0).1) ((rd zVersion u x).1))
    let t2 := (W (x + (1 : Int)))
    let t3 := (!((strLess ((rd zVersion u t0).1) ((rd zVersion u x).1)) || t1))
    let t4 := (decide ((rd zVersion u t0).2.2.2 ≥ (rd zVersion u x).2.2.2))
    bif (decide (x < (u.length : Int))) then
      if 0 ≤ x ∧ x < (u.length : Int) then
        spec_KeyOk_k ((rd zVersion u x).1) (fun y3 =>
          bif (!y3) then
            k (.inr (.inl x))
          else
            bif (decide (((rd zVersion u x).2.1.size : Int) > (12 : Int))) then
              k (.inr (.inl x))
            else
              bif (rd zVersion u x).2.2.1 then
                bif (!(strEq ((rd zVersion u x).2.1) (⟨#[]⟩ : ByteArray))) then
                  k (.inr (.inl x))
                else
                  spec_l01In_k ((rd zVersion u x).2.2.2, (1 : Int), (9999 : Int)) (fun y4 =>
                    bif (!y4) then
                      k (.inr (.inl x))
                    else
                      bif (decide (x > (0 : Int))) then
                        if 0 ≤ t0 ∧ t0 < (u.length : Int) then
                          bif t3 then
                            k (.inr (.inl x))
                          else
                            if 0 ≤ t0 ∧ t0 < (u.length : Int) then
                              bif t1 then
                                if 0 ≤ t0 ∧ t0 < (u.length : Int) then
                                  bif t4 then
                                    k (.inr (.inl x))
                                  else
                                    k (.inl t2)
                                else none
                              else
                                k (.inl t2)
                            else none
                        else none
                      else
                        k (.inl t2))
              else
                spec_l01In_k ((rd zVersion u x).2.2.2, (1 : Int), (9999 : Int)) (fun y5 =>
                  bif (!y5) then
                    k (.inr (.inl x))
                  else
                    bif (decide (x > (0 : Int))) then
                      if 0 ≤ t0 ∧ t0 < (u.length : Int) then
                        bif t3 then
                          k (.inr (.inl x))
                        else
                          if 0 ≤ t0 ∧ t0 < (u.length : Int) then
                            bif t1 then
                              if 0 ≤ t0 ∧ t0 < (u.length : Int) then
                                bif t4 then
                                  k (.inr (.inl x))
                                else
                                  k (.inl t2)
                              else none
                            else
                              k (.inl t2)
                          else none
                      else none
                    else
                      k (.inl t2)))
      else none
    else
      k (.inr (.inr x))

def spec_VersionsOk_k : FN (List dVersion) Bool := fn fun x k =>
  lpK spec_VersionsOk_b0 x (0 : Int) (Sum.elim (fun _ =>
    k false) (fun _ =>
    k (decide ((x.length : Int) ≤ (120 : Int)))))

def spec_WriteOk_k : FN dWrite Bool := fn fun x k =>
  spec_KeyOk_k x.1 (fun y1 =>
    bif y1 then
      bif (decide ((x.2.1.size : Int) ≤ (12 : Int))) then
        bif (!x.2.2) then
          k true
        else
          k (strEq x.2.1 (⟨#[]⟩ : ByteArray))
      else
        k false
    else
      k false)

def spec_WritesOk_b0 : LB (List dWrite) Int (Int ⊕ (Int ⊕ Int)) := lb fun u x k =>
    bif (decide (x < (u.length : Int))) then
      if 0 ≤ x ∧ x < (u.length : Int) then
        spec_WriteOk_k (rd zWrite u x) (fun y3 =>
          bif (!y3) then
            k (.inr (.inl x))
          else
            bif (decide (x > (0 : Int))) then
              if 0 ≤ (W (x - (1 : Int))) ∧ (W (x - (1 : Int))) < (u.length : Int) then
                if 0 ≤ x ∧ x < (u.length : Int) then
                  bif (!(strLess ((rd zWrite u (W (x - (1 : Int)))).1) ((rd zWrite u x).1))) then
                    k (.inr (.inl x))
                  else
                    k (.inl (W (x + (1 : Int))))
                else none
              else none
            else
              k (.inl (W (x + (1 : Int)))))
      else none
    else
      k (.inr (.inr x))

def spec_WritesOk_k : FN (List dWrite) Bool := fn fun x k =>
  lpK spec_WritesOk_b0 x (0 : Int) (Sum.elim (fun _ =>
    k false) (fun _ =>
    k (decide ((x.length : Int) ≤ (8 : Int)))))

def spec_RangeOk_k : FN dRange Bool := fn fun x k =>
  spec_KeyOk_k x.1 (fun y1 =>
    bif y1 then
      spec_KeyOk_k x.2 (fun y2 =>
        bif y2 then
          k ((strLess x.1 x.2) || (strEq x.1 x.2))
        else
          k false)
    else
      k false)

def spec_TxnOk_j5000010 : LB dTxn Unit Bool := lb fun u _ k =>
    let uh := u.2.2.2.2
    bif (u.2.1 == (2 : Int)) then
      spec_KeyOk_k uh.2.2.2 (fun y13 =>
        bif (!y13) then
          k false
        else
          bif (u.2.1 != (2 : Int)) then
            bif (!(strEq uh.2.2.2 (⟨#[]⟩ : ByteArray))) then
              k false
            else
              bif (u.2.1 != (1 : Int)) then
                k true
              else
                k (!uh.2.2.1)
          else
            bif (u.2.1 != (1 : Int)) then
              k true
            else
              k (!uh.2.2.1))
    else
      bif (u.2.1 != (2 : Int)) then
        bif (!(strEq uh.2.2.2 (⟨#[]⟩ : ByteArray))) then
          k false
        else
          bif (u.2.1 != (1 : Int)) then
            k true
          else
            k (!uh.2.2.1)
      else
        bif (u.2.1 != (1 : Int)) then
          k true
        else
          k (!uh.2.2.1)

def spec_TxnOk_b0 : LB dTxn Int (Int ⊕ (Int ⊕ Int)) := lb fun u x k =>
    bif (decide (x < (u.2.2.2.2.1.length : Int))) then
      if 0 ≤ x ∧ x < (u.2.2.2.2.1.length : Int) then
        spec_RangeOk_k (rd zRange u.2.2.2.2.1 x) (fun y12 =>
          bif (!y12) then
            k (.inr (.inl x))
          else
            k (.inl (W (x + (1 : Int)))))
      else none
    else
      k (.inr (.inr x))

def spec_TxnOk_k : FN dTxn Bool := fn fun x k =>
  spec_l01In_k (x.1, (1 : Int), (9999 : Int)) (fun y1 =>
    bif (!y1) then
      k false
    else
      spec_l01In_k (x.2.1, (1 : Int), (3 : Int)) (fun y2 =>
        bif (!y2) then
          k false
        else
          spec_l01In_k (x.2.2.1, (0 : Int), (9999 : Int)) (fun y3 =>
            bif (!y3) then
              k false
            else
              bif (decide ((x.2.2.2.2.1.length : Int) > (8 : Int))) then
                k false
              else
                spec_WritesOk_k x.2.2.2.2.2.1 (fun y4 =>
                  bif (!y4) then
                    k false
                  else
                    lpK spec_TxnOk_b0 x (0 : Int) (Sum.elim (fun _ =>
                      k false) (fun _ =>
                      bif (x.2.1 == (3 : Int)) then
                        spec_l01In_k (x.2.2.2.1, (W (x.2.2.1 + (1 : Int))), (9999 : Int)) (fun y7 =>
                          bif (!y7) then
                            k false
                          else
                            bif (x.2.1 != (3 : Int)) then
                              bif (x.2.2.2.1 != (0 : Int)) then
                                k false
                              else
                                spec_TxnOk_j5000010 x () (fun z8 =>
                                  k z8)
                            else
                              spec_TxnOk_j5000010 x () (fun z9 =>
                                k z9))
                      else
                        bif (x.2.1 != (3 : Int)) then
                          bif (x.2.2.2.1 != (0 : Int)) then
                            k false
                          else
                            spec_TxnOk_j5000010 x () (fun z10 =>
                              k z10)
                        else
                          spec_TxnOk_j5000010 x () (fun z11 =>
                            k z11)))))))

def spec_BaseOk_b0 : LB dBase Int (Int ⊕ (Int ⊕ Int)) := lb fun u x k =>
    bif (decide (x < (u.1.length : Int))) then
      if 0 ≤ x ∧ x < (u.1.length : Int) then
        bif (decide ((rd zVersion u.1 x).2.2.2 > u.2.2.2.1)) then
          k (.inr (.inl x))
        else
          k (.inl (W (x + (1 : Int))))
      else none
    else
      k (.inr (.inr x))

def spec_BaseOk_b2 : LB dBase (Int × (List Int)) ((Int × (List Int)) ⊕ ((Int × (List Int)) ⊕ (Int × (List Int)))) := lb fun u x k =>
    let t0 := ((W (x.1 + (1 : Int))), (x.2 ++ [(rd zTxn u.2.1 x.1).1]))
    bif (decide (x.1 < (u.2.1.length : Int))) then
      if 0 ≤ x.1 ∧ x.1 < (u.2.1.length : Int) then
        spec_TxnOk_k (rd zTxn u.2.1 x.1) (fun y12 =>
          bif (!y12) then
            k (.inr (.inl (x.1, x.2)))
          else
            bif ((rd zTxn u.2.1 x.1).2.1 != (3 : Int)) then
              k (.inr (.inl (x.1, x.2)))
            else
              bif (decide ((rd zTxn u.2.1 x.1).2.2.2.1 > u.2.2.2.1)) then
                k (.inr (.inl (x.1, x.2)))
              else
                bif (decide (x.1 > (0 : Int))) then
                  if 0 ≤ (W (x.1 - (1 : Int))) ∧ (W (x.1 - (1 : Int))) < (u.2.1.length : Int) then
                    bif (decide ((rd zTxn u.2.1 (W (x.1 - (1 : Int)))).2.2.2.1 ≥ (rd zTxn u.2.1 x.1).2.2.2.1)) then
                      k (.inr (.inl (x.1, x.2)))
                    else
                      if x.2.length + [(rd zTxn u.2.1 x.1).1].length ≤ maxLen then
                        k (.inl t0)
                      else none
                  else none
                else
                  if x.2.length + [(rd zTxn u.2.1 x.1).1].length ≤ maxLen then
                    k (.inl t0)
                  else none)
      else none
    else
      k (.inr (.inr (x.1, x.2)))

def spec_BaseOk_b4 : LB dBase (Int × (List Int)) ((Int × (List Int)) ⊕ ((Int × (List Int)) ⊕ (Int × (List Int)))) := lb fun u x k =>
    let t0 := (rd zTxn u.2.2.1 x.1)
    bif (decide (x.1 < (u.2.2.1.length : Int))) then
      if 0 ≤ x.1 ∧ x.1 < (u.2.2.1.length : Int) then
        spec_TxnOk_k t0 (fun y13 =>
          bif (!y13) then
            k (.inr (.inl (x.1, x.2)))
          else
            bif (t0.2.1 != (2 : Int)) then
              k (.inr (.inl (x.1, x.2)))
            else
              bif (decide (t0.2.2.1 > u.2.2.2.1)) then
                k (.inr (.inl (x.1, x.2)))
              else
                bif (decide (x.1 > (0 : Int))) then
                  if 0 ≤ (W (x.1 - (1 : Int))) ∧ (W (x.1 - (1 : Int))) < (u.2.2.1.length : Int) then
                    bif (!(strLess ((rd zTxn u.2.2.1 (W (x.1 - (1 : Int)))).2.2.2.2.2.2.2) (t0.2.2.2.2.2.2.2))) then
                      k (.inr (.inl (x.1, x.2)))
                    else
                      if x.2.length + [t0.1].length ≤ maxLen then
                        k (.inl ((W (x.1 + (1 : Int))), (x.2 ++ [t0.1])))
                      else none
                  else none
                else
                  if x.2.length + [t0.1].length ≤ maxLen then
                    k (.inl ((W (x.1 + (1 : Int))), (x.2 ++ [t0.1])))
                  else none)
      else none
    else
      k (.inr (.inr (x.1, x.2)))

def spec_BaseOk_b8 : LB ((List Int) × Int × dBase) Int (Int ⊕ (Int ⊕ Int)) := lb fun u x k =>
    bif (decide (x < u.2.1)) then
      if 0 ≤ x ∧ x < (u.1.length : Int) then
        if 0 ≤ u.2.1 ∧ u.2.1 < (u.1.length : Int) then
          bif ((rd (0 : Int) u.1 x) == (rd (0 : Int) u.1 u.2.1)) then
            k (.inr (.inl x))
          else
            k (.inl (W (x + (1 : Int))))
        else none
      else none
    else
      k (.inr (.inr x))

def spec_BaseOk_b6 : LB ((List Int) × dBase) Int (Int ⊕ (Int ⊕ Int)) := lb fun u x k =>
    bif (decide (x < (u.1.length : Int))) then
      lpK spec_BaseOk_b8 (u.1, x, u.2) (0 : Int) (Sum.elim (fun _ =>
        k (.inr (.inr x))) (fun _ =>
        if 0 ≤ x ∧ x < (u.1.length : Int) then
          bif (decide ((rd (0 : Int) u.1 x) ≥ u.2.2.2.2.2)) then
            k (.inr (.inr x))
          else
            k (.inl (W (x + (1 : Int))))
        else none))
    else
      k (.inr (.inl x))

def spec_BaseOk_k : FN dBase Bool := fn fun x k =>
  spec_VersionsOk_k x.1 (fun y1 =>
    bif (!y1) then
      k false
    else
      bif (decide ((x.2.1.length : Int) > (12 : Int))) then
        k false
      else
        bif (decide ((x.2.2.1.length : Int) > (3 : Int))) then
          k false
        else
          spec_l01In_k (x.2.2.2.1, (0 : Int), (9999 : Int)) (fun y2 =>
            bif (!y2) then
              k false
            else
              spec_l01In_k (x.2.2.2.2, (1 : Int), (9999 : Int)) (fun y3 =>
                bif (!y3) then
                  k false
                else
                  lpK spec_BaseOk_b0 x (0 : Int) (Sum.elim (fun _ =>
                    k false) (fun _ =>
                    lpK spec_BaseOk_b2 x ((0 : Int), ([] : List Int)) (Sum.elim (fun _ =>
                      k false) (fun z7 =>
                      lpK spec_BaseOk_b4 x ((0 : Int), z7.2) (Sum.elim (fun _ =>
                        k false) (fun z9 =>
                        lpK spec_BaseOk_b6 (z9.2, x) (0 : Int) (Sum.elim (fun _ =>
                          k true) (fun _ =>
                          k false)))))))))))

def spec_EngineOk_b2 : LB (Int × dEngine × dTxn) Int (Int ⊕ (Int ⊕ Int)) := lb fun u x k =>
    bif (decide (x < (u.2.1.1.2.1.length : Int))) then
      if 0 ≤ x ∧ x < (u.2.1.1.2.1.length : Int) then
        bif ((rd zTxn u.2.1.1.2.1 x).1 == u.2.2.1) then
          k (.inr (.inl x))
        else
          k (.inl (W (x + (1 : Int))))
      else none
    else
      k (.inr (.inr x))

def spec_EngineOk_b4 : LB (Int × dEngine × dTxn) Int (Int ⊕ (Int ⊕ Int)) := lb fun u x k =>
    bif (decide (x < (u.2.1.1.2.2.1.length : Int))) then
      if 0 ≤ x ∧ x < (u.2.1.1.2.2.1.length : Int) then
        bif ((rd zTxn u.2.1.1.2.2.1 x).1 == u.2.2.1) then
          k (.inr (.inl x))
        else
          k (.inl (W (x + (1 : Int))))
      else none
    else
      k (.inr (.inr x))

def spec_EngineOk_b0 : LB dEngine Int (Int ⊕ (Int ⊕ Int)) := lb fun u x k =>
    let t0 := (x, u, (rd zTxn u.2 x))
    bif (decide (x < (u.2.length : Int))) then
      if 0 ≤ x ∧ x < (u.2.length : Int) then
        spec_TxnOk_k (rd zTxn u.2 x) (fun y4 =>
          bif (!y4) then
            k (.inr (.inl x))
          else
            bif ((rd zTxn u.2 x).2.1 != (1 : Int)) then
              k (.inr (.inl x))
            else
              bif (decide ((rd zTxn u.2 x).1 ≥ u.1.2.2.2.2)) then
                k (.inr (.inl x))
              else
                bif (decide ((rd zTxn u.2 x).2.2.1 > u.1.2.2.2.1)) then
                  k (.inr (.inl x))
                else
                  bif (decide (x > (0 : Int))) then
                    if 0 ≤ (W (x - (1 : Int))) ∧ (W (x - (1 : Int))) < (u.2.length : Int) then
                      bif (decide ((rd zTxn u.2 (W (x - (1 : Int)))).1 ≥ (rd zTxn u.2 x).1)) then
                        k (.inr (.inl x))
                      else
                        lpK spec_EngineOk_b2 t0 (0 : Int) (Sum.elim (fun _ =>
                          k (.inr (.inl x))) (fun _ =>
                          lpK spec_EngineOk_b4 t0 (0 : Int) (Sum.elim (fun _ =>
                            k (.inr (.inl x))) (fun _ =>
                            k (.inl (W (x + (1 : Int))))))))
                    else none
                  else
                    lpK spec_EngineOk_b2 t0 (0 : Int) (Sum.elim (fun _ =>
                      k (.inr (.inl x))) (fun _ =>
                      lpK spec_EngineOk_b4 t0 (0 : Int) (Sum.elim (fun _ =>
                        k (.inr (.inl x))) (fun _ =>
                        k (.inl (W (x + (1 : Int)))))))))
      else none
    else
      k (.inr (.inr x))

def spec_EngineOk_k : FN dEngine Bool := fn fun x k =>
  spec_BaseOk_k x.1 (fun y1 =>
    bif (!y1) then
      k false
    else
      bif (decide ((x.2.length : Int) > (4 : Int))) then
        k false
      else
        lpK spec_EngineOk_b0 x (0 : Int) (Sum.elim (fun _ =>
          k false) (fun _ =>
          k true)))

def spec_Begin_k : FN dEngine (dEngine × Int × Int) := fn fun x k =>
  spec_l11Copy_k x (fun y1 =>
    let y1h := y1.2.2.2.2
    spec_EngineOk_k x (fun y2 =>
      bif (!y2) then
        k (((y1.2.2.1, (y1.2.2.2.1, (y1h.1, (y1.1, y1.2.1)))), y1h.2), (0 : Int), (3 : Int))
      else
        bif (decide ((x.2.length : Int) ≥ (4 : Int))) then
          k (((y1.2.2.1, (y1.2.2.2.1, (y1h.1, (y1.1, y1.2.1)))), y1h.2), (0 : Int), (3 : Int))
        else
          bif (decide (x.1.2.2.2.2 ≥ (9999 : Int))) then
            k (((y1.2.2.1, (y1.2.2.2.1, (y1h.1, (y1.1, y1.2.1)))), y1h.2), (0 : Int), (3 : Int))
          else
            if y1h.2.length + [(x.1.2.2.2.2, ((1 : Int), (x.1.2.2.2.1, ((0 : Int), (([] : List dRange), (([] : List dWrite), (false, (⟨#[]⟩ : ByteArray))))))))].length ≤ maxLen then
              k (((y1.2.2.1, (y1.2.2.2.1, (y1h.1, (y1.1, (W (x.1.2.2.2.2 + (1 : Int))))))), (y1h.2 ++ [(x.1.2.2.2.2, ((1 : Int), (x.1.2.2.2.1, ((0 : Int), (([] : List dRange), (([] : List dWrite), (false, (⟨#[]⟩ : ByteArray))))))))])), x.1.2.2.2.2, (0 : Int))
            else none))

def spec_OpenAt_b0 : LB (Int × dEngine) Int (Int ⊕ ((Int × Int) ⊕ Int)) := lb fun u x k =>
    bif (decide (x < (u.2.2.length : Int))) then
      if 0 ≤ x ∧ x < (u.2.2.length : Int) then
        bif ((rd zTxn u.2.2 x).1 == u.1) then
          k (.inr (.inl (x, x)))
        else
          k (.inl (W (x + (1 : Int))))
      else none
    else
      k (.inr (.inr x))

def spec_OpenAt_k : FN (dEngine × Int) Int := fn fun x k =>
  lpK spec_OpenAt_b0 (x.2, x.1) (0 : Int) (Sum.elim (fun z1 =>
    k z1.1) (fun _ =>
    k (-1 : Int)))

def spec_ReadRange_b0 : LB (dTxn × dRange × Int × Int × Int × Int × (Bool × ByteArray)) (Int × (Bool × ByteArray) × (List dRange) × (List dWrite) × (List dRange) × (List dWrite)) ((Int × (Bool × ByteArray) × (List dRange) × (List dWrite) × (List dRange) × (List dWrite)) ⊕ ((Int × Int × Int × Int × Int × (Bool × ByteArray) × (List dRange) × (List dWrite)) ⊕ (Int × (Bool × ByteArray) × (List dRange) × (List dWrite) × (List dRange) × (List dWrite)))) := lb fun u x k =>
    let xh := x.2.2.2.2
    bif (decide (x.1 < (u.1.2.2.2.2.1.length : Int))) then
      if 0 ≤ x.1 ∧ x.1 < (u.1.2.2.2.2.1.length : Int) then
        bif (Ty.eqB tRange (rd zRange u.1.2.2.2.2.1 x.1) u.2.1) then
          k (.inr (.inl (x.1, u.2.2.1, u.2.2.2.1, u.2.2.2.2.1, u.2.2.2.2.2.1, u.2.2.2.2.2.2, xh.1, xh.2)))
        else
          k (.inl ((W (x.1 + (1 : Int))), x.2.1, x.2.2.1, x.2.2.2.1, xh.1, xh.2))
      else none
    else
      k (.inr (.inr (x.1, x.2.1, x.2.2.1, x.2.2.2.1, xh.1, xh.2)))

def spec_ReadRange_k : FN (dTxn × dRange) (dTxn × Bool) := fn fun x k =>
  spec_l07Copy_k x.1 (fun y1 =>
    let y1h := y1.2.2.2.2
    spec_TxnOk_k x.1 (fun y2 =>
      bif (!y2) then
        k ((y1.1, (y1.2.1, (y1.2.2.1, (y1.2.2.2.1, (y1h.2.2.1, (y1h.2.2.2, (y1h.1, y1h.2.1))))))), false)
      else
        bif (x.1.2.1 != (1 : Int)) then
          k ((y1.1, (y1.2.1, (y1.2.2.1, (y1.2.2.2.1, (y1h.2.2.1, (y1h.2.2.2, (y1h.1, y1h.2.1))))))), false)
        else
          spec_RangeOk_k x.2 (fun y3 =>
            bif (!y3) then
              k ((y1.1, (y1.2.1, (y1.2.2.1, (y1.2.2.2.1, (y1h.2.2.1, (y1h.2.2.2, (y1h.1, y1h.2.1))))))), false)
            else
              lpK spec_ReadRange_b0 (x.1, x.2, y1.1, y1.2.1, y1.2.2.1, y1.2.2.2.1, (y1h.1, y1h.2.1)) ((0 : Int), (false, (⟨#[]⟩ : ByteArray)), ([] : List dRange), ([] : List dWrite), y1h.2.2.1, y1h.2.2.2) (Sum.elim (fun z4 =>
                k ((z4.2.1, (z4.2.2.1, (z4.2.2.2.1, (z4.2.2.2.2.1, (z4.2.2.2.2.2.2.1, (z4.2.2.2.2.2.2.2, z4.2.2.2.2.2.1)))))), true)) (fun z5 =>
                let z5h := z5.2.2.2.2
                bif (decide ((x.1.2.2.2.2.1.length : Int) ≥ (8 : Int))) then
                  k ((y1.1, (y1.2.1, (y1.2.2.1, (y1.2.2.2.1, (z5h.1, (z5h.2, (y1h.1, y1h.2.1))))))), false)
                else
                  if z5h.1.length + [x.2].length ≤ maxLen then
                    k ((y1.1, (y1.2.1, (y1.2.2.1, (y1.2.2.2.1, ((z5h.1 ++ [x.2]), (z5h.2, (y1h.1, y1h.2.1))))))), true)
                  else none)))))

def spec_l06At_b0 : LB ((List dVersion) × ByteArray × Int) (Int × Int) ((Int × Int) ⊕ (Int × Int)) := lb fun u x k =>
    bif (decide (x.2 < (u.1.length : Int))) then
      if 0 ≤ x.2 ∧ x.2 < (u.1.length : Int) then
        bif (strEq ((rd zVersion u.1 x.2).1) u.2.1) then
          if 0 ≤ x.2 ∧ x.2 < (u.1.length : Int) then
            bif (decide ((rd zVersion u.1 x.2).2.2.2 ≤ u.2.2)) then
              bif (decide (x.1 < (0 : Int))) then
                k (.inl (x.2, (W (x.2 + (1 : Int)))))
              else
                if 0 ≤ x.2 ∧ x.2 < (u.1.length : Int) then
                  if 0 ≤ x.1 ∧ x.1 < (u.1.length : Int) then
                    bif (decide ((rd zVersion u.1 x.2).2.2.2 > (rd zVersion u.1 x.1).2.2.2)) then
                      k (.inl (x.2, (W (x.2 + (1 : Int)))))
                    else
                      k (.inl (x.1, (W (x.2 + (1 : Int)))))
                  else none
                else none
            else
              k (.inl (x.1, (W (x.2 + (1 : Int)))))
          else none
        else
          k (.inl (x.1, (W (x.2 + (1 : Int)))))
      else none
    else
      k (.inr (x.1, x.2))

def spec_l06At_k : FN ((List dVersion) × ByteArray × Int) Int := fn fun x k =>
  lpK spec_l06At_b0 (x.1, x.2.1, x.2.2) ((-1 : Int), (0 : Int)) (fun z1 =>
    k z1.1)

def spec_SeenAt_k : FN ((List dVersion) × ByteArray × Int) (ByteArray × Bool) := fn fun x k =>
  spec_l06At_k (x.1, x.2.1, x.2.2) (fun y1 =>
    bif (decide (y1 < (0 : Int))) then
      k ((⟨#[]⟩ : ByteArray), false)
    else
      if 0 ≤ y1 ∧ y1 < (x.1.length : Int) then
        bif (rd zVersion x.1 y1).2.2.1 then
          k ((⟨#[]⟩ : ByteArray), false)
        else
          if 0 ≤ y1 ∧ y1 < (x.1.length : Int) then
            k ((rd zVersion x.1 y1).2.1, true)
          else none
      else none)

def spec_OwnGet_b0 : LB ((List dVersion) × ByteArray × dTxn) (ByteArray × Int) ((ByteArray × Int) ⊕ ((ByteArray × Bool × Int) ⊕ (ByteArray × Int))) := lb fun u x k =>
    let uh := u.2.2.2.2
    bif (decide (x.2 < (uh.2.2.2.1.length : Int))) then
      if 0 ≤ x.2 ∧ x.2 < (uh.2.2.2.1.length : Int) then
        bif (strEq ((rd zWrite uh.2.2.2.1 x.2).1) u.2.1) then
          if 0 ≤ x.2 ∧ x.2 < (uh.2.2.2.1.length : Int) then
            bif (rd zWrite uh.2.2.2.1 x.2).2.2 then
              k (.inr (.inl ((⟨#[]⟩ : ByteArray), false, x.2)))
            else
              if 0 ≤ x.2 ∧ x.2 < (uh.2.2.2.1.length : Int) then
                k (.inr (.inl ((rd zWrite uh.2.2.2.1 x.2).2.1, true, x.2)))
              else none
          else none
        else
          k (.inl (x.1, (W (x.2 + (1 : Int)))))
      else none
    else
      k (.inr (.inr (x.1, x.2)))

def spec_OwnGet_k : FN (dTxn × (List dVersion) × ByteArray) (ByteArray × Bool) := fn fun x k =>
  lpK spec_OwnGet_b0 (x.2.1, x.2.2, x.1) ((⟨#[]⟩ : ByteArray), (0 : Int)) (Sum.elim (fun z1 =>
    k (z1.1, z1.2.1)) (fun _ =>
    spec_SeenAt_k (x.2.1, x.2.2, x.1.2.2.1) (fun y3 =>
      k (y3.1, y3.2))))

def spec_GetKey_k : FN (dEngine × Int × ByteArray) (dEngine × ByteArray × Bool × Int) := fn fun x k =>
  spec_l11Copy_k x.1 (fun y1 =>
    let y1h := y1.2.2.2.2
    spec_OpenAt_k (x.1, x.2.1) (fun y2 =>
      bif (decide (y2 < (0 : Int))) then
        k (((y1.2.2.1, (y1.2.2.2.1, (y1h.1, (y1.1, y1.2.1)))), y1h.2), (⟨#[]⟩ : ByteArray), false, (1 : Int))
      else
        spec_KeyOk_k x.2.2 (fun y3 =>
          bif (!y3) then
            k (((y1.2.2.1, (y1.2.2.2.1, (y1h.1, (y1.1, y1.2.1)))), y1h.2), (⟨#[]⟩ : ByteArray), false, (2 : Int))
          else
            if 0 ≤ y2 ∧ y2 < (x.1.2.length : Int) then
              spec_ReadRange_k ((rd zTxn x.1.2 y2), (x.2.2, x.2.2)) (fun y4 =>
                bif (!y4.2) then
                  k (((y1.2.2.1, (y1.2.2.2.1, (y1h.1, (y1.1, y1.2.1)))), y1h.2), (⟨#[]⟩ : ByteArray), false, (3 : Int))
                else
                  if 0 ≤ y2 ∧ y2 < (y1h.2.length : Int) then
                    spec_OwnGet_k (y4.1, x.1.1.1, x.2.2) (fun y5 =>
                      k (((y1.2.2.1, (y1.2.2.2.1, (y1h.1, (y1.1, y1.2.1)))), (y1h.2.set y2.toNat y4.1)), y5.1, y5.2, (0 : Int)))
                  else none)
            else none)))

def spec_InRange_k : FN (dRange × ByteArray) Bool := fn fun x k =>
  bif (!(strLess x.2 x.1.1)) then
    k ((strLess x.2 x.1.2) || (strEq x.2 x.1.2))
  else
    k false

def spec_l06Keys_b2 : LB ((List dVersion) × (List ByteArray) × Int × ByteArray × dRange) (Int × (List ByteArray)) ((Int × (List ByteArray)) ⊕ (Int × (List ByteArray))) := lb fun u x k =>
    bif (decide (x.1 < (u.2.1.length : Int))) then
      if 0 ≤ x.1 ∧ x.1 < (u.2.1.length : Int) then
        bif (strLess (rd zStr u.2.1 x.1) u.2.2.2.1) then
          if 0 ≤ x.1 ∧ x.1 < (u.2.1.length : Int) then
            if x.2.length + [(rd zStr u.2.1 x.1)].length ≤ maxLen then
              k (.inl ((W (x.1 + (1 : Int))), (x.2 ++ [(rd zStr u.2.1 x.1)])))
            else none
          else none
        else
          k (.inl ((W (x.1 + (1 : Int))), x.2))
      else none
    else
      k (.inr (x.1, x.2))

def spec_l06Keys_b4 : LB ((List dVersion) × (List ByteArray) × Int × ByteArray × dRange) (Int × (List ByteArray)) ((Int × (List ByteArray)) ⊕ (Int × (List ByteArray))) := lb fun u x k =>
    bif (decide (x.1 < (u.2.1.length : Int))) then
      if 0 ≤ x.1 ∧ x.1 < (u.2.1.length : Int) then
        bif (!((strLess (rd zStr u.2.1 x.1) u.2.2.2.1) || (strEq (rd zStr u.2.1 x.1) u.2.2.2.1))) then
          if 0 ≤ x.1 ∧ x.1 < (u.2.1.length : Int) then
            if x.2.length + [(rd zStr u.2.1 x.1)].length ≤ maxLen then
              k (.inl ((W (x.1 + (1 : Int))), (x.2 ++ [(rd zStr u.2.1 x.1)])))
            else none
          else none
        else
          k (.inl ((W (x.1 + (1 : Int))), x.2))
      else none
    else
      k (.inr (x.1, x.2))

def spec_l06Keys_b0 : LB ((List dVersion) × dRange) ((List ByteArray) × Int) (((List ByteArray) × Int) ⊕ ((List ByteArray) × Int)) := lb fun u x k =>
    bif (decide (x.2 < (u.1.length : Int))) then
      if 0 ≤ x.2 ∧ x.2 < (u.1.length : Int) then
        spec_InRange_k (u.2, (rd zVersion u.1 x.2).1) (fun y2 =>
          bif (!y2) then
            k (.inl (x.1, (W (x.2 + (1 : Int)))))
          else
            lpK spec_l06Keys_b2 (u.1, x.1, x.2, (rd zVersion u.1 x.2).1, u.2) ((0 : Int), ([] : List ByteArray)) (fun z3 =>
              if z3.2.length + [(rd zVersion u.1 x.2).1].length ≤ maxLen then
                lpK spec_l06Keys_b4 (u.1, x.1, x.2, (rd zVersion u.1 x.2).1, u.2) ((0 : Int), (z3.2 ++ [(rd zVersion u.1 x.2).1])) (fun z4 =>
                  k (.inl (z4.2, (W (x.2 + (1 : Int))))))
              else none))
      else none
    else
      k (.inr (x.1, x.2))

def spec_l06Keys_k : FN ((List dVersion) × dRange) (List ByteArray) := fn fun x k =>
  lpK spec_l06Keys_b0 (x.1, x.2) (([] : List ByteArray), (0 : Int)) (fun z1 =>
    k z1.1)

def spec_OwnScan_b0 : LB ((List dVersion) × dTxn × dRange) (Int × (List dVersion)) ((Int × (List dVersion)) ⊕ (Int × (List dVersion))) := lb fun u x k =>
    bif (decide (x.1 < (u.2.1.2.2.2.2.2.1.length : Int))) then
      if 0 ≤ x.1 ∧ x.1 < (u.2.1.2.2.2.2.2.1.length : Int) then
        if x.2.length + [((rd zWrite u.2.1.2.2.2.2.2.1 x.1).1, ((⟨#[]⟩ : ByteArray), (false, (0 : Int))))].length ≤ maxLen then
          k (.inl ((W (x.1 + (1 : Int))), (x.2 ++ [((rd zWrite u.2.1.2.2.2.2.2.1 x.1).1, ((⟨#[]⟩ : ByteArray), (false, (0 : Int))))])))
        else none
      else none
    else
      k (.inr (x.1, x.2))

def spec_OwnScan_b2 : LB ((List dVersion) × (List ByteArray) × dTxn) (Int × (List dRange)) ((Int × (List dRange)) ⊕ (Int × (List dRange))) := lb fun u x k =>
    bif (decide (x.1 < (u.2.1.length : Int))) then
      if 0 ≤ x.1 ∧ x.1 < (u.2.1.length : Int) then
        spec_OwnGet_k (u.2.2, u.1, (rd zStr u.2.1 x.1)) (fun y4 =>
          bif y4.2 then
            if 0 ≤ x.1 ∧ x.1 < (u.2.1.length : Int) then
              if x.2.length + [((rd zStr u.2.1 x.1), y4.1)].length ≤ maxLen then
                k (.inl ((W (x.1 + (1 : Int))), (x.2 ++ [((rd zStr u.2.1 x.1), y4.1)])))
              else none
            else none
          else
            k (.inl ((W (x.1 + (1 : Int))), x.2)))
      else none
    else
      k (.inr (x.1, x.2))

def spec_OwnScan_k : FN (dTxn × (List dVersion) × dRange) (List dRange) := fn fun x k =>
  if ([] : List dVersion).length + x.2.1.length ≤ maxLen then
    lpK spec_OwnScan_b0 (x.2.1, x.1, x.2.2) ((0 : Int), (([] : List dVersion) ++ x.2.1)) (fun z1 =>
      spec_l06Keys_k (z1.2, x.2.2) (fun y2 =>
        lpK spec_OwnScan_b2 (x.2.1, y2, x.1) ((0 : Int), ([] : List dRange)) (fun z3 =>
          k z3.2)))
  else none

def spec_ScanKeys_k : FN (dEngine × Int × dRange) (dEngine × (List dRange) × Int) := fn fun x k =>
  spec_l11Copy_k x.1 (fun y1 =>
    let y1h := y1.2.2.2.2
    spec_OpenAt_k (x.1, x.2.1) (fun y2 =>
      bif (decide (y2 < (0 : Int))) then
        k (((y1.2.2.1, (y1.2.2.2.1, (y1h.1, (y1.1, y1.2.1)))), y1h.2), ([] : List dRange), (1 : Int))
      else
        spec_RangeOk_k x.2.2 (fun y3 =>
          bif (!y3) then
            k (((y1.2.2.1, (y1.2.2.2.1, (y1h.1, (y1.1, y1.2.1)))), y1h.2), ([] : List dRange), (2 : Int))
          else
            if 0 ≤ y2 ∧ y2 < (x.1.2.length : Int) then
              spec_ReadRange_k ((rd zTxn x.1.2 y2), x.2.2) (fun y4 =>
                bif (!y4.2) then
                  k (((y1.2.2.1, (y1.2.2.2.1, (y1h.1, (y1.1, y1.2.1)))), y1h.2), ([] : List dRange), (3 : Int))
                else
                  if 0 ≤ y2 ∧ y2 < (y1h.2.length : Int) then
                    spec_OwnScan_k (y4.1, x.1.1.1, x.2.2) (fun y5 =>
                      k (((y1.2.2.1, (y1.2.2.2.1, (y1h.1, (y1.1, y1.2.1)))), (y1h.2.set y2.toNat y4.1)), y5, (0 : Int)))
                  else none)
            else none)))

def spec_WriteKey_k : FN (dTxn × dWrite) (dTxn × Bool) := fn fun x k =>
  spec_l07Copy_k x.1 (fun y1 =>
    let y1h := y1.2.2.2.2
    spec_TxnOk_k x.1 (fun y2 =>
      bif (!y2) then
        k ((y1.1, (y1.2.1, (y1.2.2.1, (y1.2.2.2.1, (y1h.2.2.1, (y1h.2.2.2, (y1h.1, y1h.2.1))))))), false)
      else
        bif (x.1.2.1 != (1 : Int)) then
          k ((y1.1, (y1.2.1, (y1.2.2.1, (y1.2.2.2.1, (y1h.2.2.1, (y1h.2.2.2, (y1h.1, y1h.2.1))))))), false)
        else
          spec_WriteOk_k x.2 (fun y3 =>
            bif (!y3) then
              k ((y1.1, (y1.2.1, (y1.2.2.1, (y1.2.2.2.1, (y1h.2.2.1, (y1h.2.2.2, (y1h.1, y1h.2.1))))))), false)
            else
              spec_PutWrite_k (x.1.2.2.2.2.2.1, x.2) (fun y4 =>
                spec_WritesOk_k y4 (fun y5 =>
                  bif (!y5) then
                    spec_l07Copy_k x.1 (fun y6 =>
                      k ((y6.1, (y6.2.1, (y6.2.2.1, (y6.2.2.2.1, (y6.2.2.2.2.2.2.1, (y6.2.2.2.2.2.2.2, (y6.2.2.2.2.1, y6.2.2.2.2.2.1))))))), false))
                  else
                    k ((y1.1, (y1.2.1, (y1.2.2.1, (y1.2.2.2.1, (y1h.2.2.1, (y4, (y1h.1, y1h.2.1))))))), true))))))

def spec_PutKey_k : FN (dEngine × Int × dWrite) (dEngine × Int) := fn fun x k =>
  spec_l11Copy_k x.1 (fun y1 =>
    let y1h := y1.2.2.2.2
    spec_OpenAt_k (x.1, x.2.1) (fun y2 =>
      bif (decide (y2 < (0 : Int))) then
        k (((y1.2.2.1, (y1.2.2.2.1, (y1h.1, (y1.1, y1.2.1)))), y1h.2), (1 : Int))
      else
        spec_WriteOk_k x.2.2 (fun y3 =>
          bif (!y3) then
            k (((y1.2.2.1, (y1.2.2.2.1, (y1h.1, (y1.1, y1.2.1)))), y1h.2), (2 : Int))
          else
            if 0 ≤ y2 ∧ y2 < (x.1.2.length : Int) then
              spec_WriteKey_k ((rd zTxn x.1.2 y2), x.2.2) (fun y4 =>
                bif (!y4.2) then
                  k (((y1.2.2.1, (y1.2.2.2.1, (y1h.1, (y1.1, y1.2.1)))), y1h.2), (3 : Int))
                else
                  if 0 ≤ y2 ∧ y2 < (y1h.2.length : Int) then
                    k (((y1.2.2.1, (y1.2.2.2.1, (y1h.1, (y1.1, y1.2.1)))), (y1h.2.set y2.toNat y4.1)), (0 : Int))
                  else none)
            else none)))

def spec_l11All_k : FN dBase (List dTxn) := fn fun x k =>
  if ([] : List dTxn).length + x.2.1.length ≤ maxLen then
    if (([] : List dTxn) ++ x.2.1).length + x.2.2.1.length ≤ maxLen then
      k ((([] : List dTxn) ++ x.2.1) ++ x.2.2.1)
    else none
  else none

def spec_Meets_b2 : LB ((List dWrite) × (List dWrite) × Int) Int (Int ⊕ (Int ⊕ Int)) := lb fun u x k =>
    bif (decide (x < (u.2.1.length : Int))) then
      if 0 ≤ u.2.2 ∧ u.2.2 < (u.1.length : Int) then
        if 0 ≤ x ∧ x < (u.2.1.length : Int) then
          bif (strEq ((rd zWrite u.1 u.2.2).1) ((rd zWrite u.2.1 x).1)) then
            k (.inr (.inl x))
          else
            k (.inl (W (x + (1 : Int))))
        else none
      else none
    else
      k (.inr (.inr x))

def spec_Meets_b0 : LB ((List dWrite) × (List dWrite)) Int (Int ⊕ (Int ⊕ Int)) := lb fun u x k =>
    bif (decide (x < (u.1.length : Int))) then
      lpK spec_Meets_b2 (u.1, u.2, x) (0 : Int) (Sum.elim (fun _ =>
        k (.inr (.inr x))) (fun _ =>
        k (.inl (W (x + (1 : Int))))))
    else
      k (.inr (.inl x))

def spec_Meets_k : FN ((List dWrite) × (List dWrite)) Bool := fn fun x k =>
  lpK spec_Meets_b0 (x.1, x.2) (0 : Int) (Sum.elim (fun _ =>
    k false) (fun _ =>
    k true))

def spec_Blocked_b0 : LB ((List dTxn) × dTxn) Int (Int ⊕ (Int ⊕ Int)) := lb fun u x k =>
    bif (decide (x < (u.1.length : Int))) then
      if 0 ≤ x ∧ x < (u.1.length : Int) then
        bif ((rd zTxn u.1 x).1 != u.2.1) then
          bif ((rd zTxn u.1 x).2.1 == (2 : Int)) then
            spec_Meets_k ((rd zTxn u.1 x).2.2.2.2.2.1, u.2.2.2.2.2.2.1) (fun y3 =>
              bif y3 then
                k (.inr (.inl x))
              else
                k (.inl (W (x + (1 : Int)))))
          else
            bif ((rd zTxn u.1 x).2.1 == (3 : Int)) then
              bif (decide ((rd zTxn u.1 x).2.2.2.1 > u.2.2.2.1)) then
                spec_Meets_k ((rd zTxn u.1 x).2.2.2.2.2.1, u.2.2.2.2.2.2.1) (fun y4 =>
                  bif y4 then
                    k (.inr (.inl x))
                  else
                    k (.inl (W (x + (1 : Int)))))
              else
                k (.inl (W (x + (1 : Int))))
            else
              k (.inl (W (x + (1 : Int))))
        else
          k (.inl (W (x + (1 : Int))))
      else none
    else
      k (.inr (.inr x))

def spec_Blocked_k : FN (dTxn × (List dTxn)) Bool := fn fun x k =>
  lpK spec_Blocked_b0 (x.2, x.1) (0 : Int) (Sum.elim (fun _ =>
    k true) (fun _ =>
    k false))

def spec_Beside_k : FN (dTxn × dTxn) Bool := fn fun x k =>
  bif (x.1.1 == x.2.1) then
    k false
  else
    bif (x.1.2.1 == (3 : Int)) then
      bif (decide (x.1.2.2.2.1 ≤ x.2.2.2.1)) then
        k false
      else
        bif (x.2.2.1 == (3 : Int)) then
          bif (decide (x.2.2.2.2.1 ≤ x.1.2.2.1)) then
            k false
          else
            k true
        else
          k true
    else
      bif (x.2.2.1 == (3 : Int)) then
        bif (decide (x.2.2.2.2.1 ≤ x.1.2.2.1)) then
          k false
        else
          k true
      else
        k true

def spec_Touches_b2 : LB ((List dRange) × (List dWrite) × Int) Int (Int ⊕ (Int ⊕ Int)) := lb fun u x k =>
    bif (decide (x < (u.2.1.length : Int))) then
      if 0 ≤ u.2.2 ∧ u.2.2 < (u.1.length : Int) then
        if 0 ≤ x ∧ x < (u.2.1.length : Int) then
          spec_InRange_k ((rd zRange u.1 u.2.2), (rd zWrite u.2.1 x).1) (fun y5 =>
            bif y5 then
              k (.inr (.inl x))
            else
              k (.inl (W (x + (1 : Int)))))
        else none
      else none
    else
      k (.inr (.inr x))

def spec_Touches_b0 : LB ((List dRange) × (List dWrite)) Int (Int ⊕ (Int ⊕ Int)) := lb fun u x k =>
    bif (decide (x < (u.1.length : Int))) then
      lpK spec_Touches_b2 (u.1, u.2, x) (0 : Int) (Sum.elim (fun _ =>
        k (.inr (.inr x))) (fun _ =>
        k (.inl (W (x + (1 : Int))))))
    else
      k (.inr (.inl x))

def spec_Touches_k : FN ((List dRange) × (List dWrite)) Bool := fn fun x k =>
  lpK spec_Touches_b0 (x.1, x.2) (0 : Int) (Sum.elim (fun _ =>
    k false) (fun _ =>
    k true))

def spec_Ahead_k : FN (dTxn × dTxn) Bool := fn fun x k =>
  spec_Beside_k (x.1, x.2) (fun y1 =>
    bif y1 then
      spec_Touches_k (x.1.2.2.2.2.1, x.2.2.2.2.2.2.1) (fun y2 =>
        k y2)
    else
      k false)

def spec_InOf_b0 : LB ((List dTxn) × dTxn) Int (Int ⊕ (Int ⊕ Int)) := lb fun u x k =>
    bif (decide (x < (u.1.length : Int))) then
      if 0 ≤ x ∧ x < (u.1.length : Int) then
        bif ((rd zTxn u.1 x).2.1 == (2 : Int)) then
          if 0 ≤ x ∧ x < (u.1.length : Int) then
            spec_Ahead_k ((rd zTxn u.1 x), u.2) (fun y3 =>
              bif y3 then
                k (.inr (.inl x))
              else
                k (.inl (W (x + (1 : Int)))))
          else none
        else
          if 0 ≤ x ∧ x < (u.1.length : Int) then
            bif ((rd zTxn u.1 x).2.1 == (3 : Int)) then
              if 0 ≤ x ∧ x < (u.1.length : Int) then
                spec_Ahead_k ((rd zTxn u.1 x), u.2) (fun y4 =>
                  bif y4 then
                    k (.inr (.inl x))
                  else
                    k (.inl (W (x + (1 : Int)))))
              else none
            else
              k (.inl (W (x + (1 : Int))))
          else none
      else none
    else
      k (.inr (.inr x))

def spec_InOf_k : FN (dTxn × (List dTxn)) Bool := fn fun x k =>
  lpK spec_InOf_b0 (x.2, x.1) (0 : Int) (Sum.elim (fun _ =>
    k true) (fun _ =>
    k false))

def spec_OutOf_b0 : LB ((List dTxn) × dTxn) Int (Int ⊕ (Int ⊕ Int)) := lb fun u x k =>
    bif (decide (x < (u.1.length : Int))) then
      if 0 ≤ x ∧ x < (u.1.length : Int) then
        bif ((rd zTxn u.1 x).2.1 == (3 : Int)) then
          if 0 ≤ x ∧ x < (u.1.length : Int) then
            spec_Ahead_k (u.2, (rd zTxn u.1 x)) (fun y3 =>
              bif y3 then
                k (.inr (.inl x))
              else
                k (.inl (W (x + (1 : Int)))))
          else none
        else
          k (.inl (W (x + (1 : Int))))
      else none
    else
      k (.inr (.inr x))

def spec_OutOf_k : FN (dTxn × (List dTxn)) Bool := fn fun x k =>
  lpK spec_OutOf_b0 (x.2, x.1) (0 : Int) (Sum.elim (fun _ =>
    k true) (fun _ =>
    k false))

def spec_Danger_b2 : LB ((List dTxn) × Int × dTxn × dTxn) Int (Int ⊕ (Int ⊕ Int)) := lb fun u x k =>
    bif (decide (x < (u.1.length : Int))) then
      bif (u.2.2.2.2.1 == (2 : Int)) then
        spec_Ahead_k (u.2.2.2, u.2.2.1) (fun y19 =>
          bif y19 then
            if 0 ≤ x ∧ x < (u.1.length : Int) then
              bif ((rd zTxn u.1 x).2.1 == (2 : Int)) then
                bif ((rd zTxn u.1 x).1 != u.2.2.1.1) then
                  spec_Ahead_k ((rd zTxn u.1 x), u.2.2.2) (fun y20 =>
                    bif y20 then
                      k (.inr (.inl x))
                    else
                      k (.inl (W (x + (1 : Int)))))
                else
                  k (.inl (W (x + (1 : Int))))
              else
                k (.inl (W (x + (1 : Int))))
            else none
          else
            k (.inr (.inr x)))
      else
        k (.inr (.inr x))
    else
      k (.inr (.inr x))

def spec_Danger_j5000009 : LB ((List dTxn) × Int × dTxn × dTxn) Unit (Unit ⊕ Unit) := lb fun u _ k =>
    bif (u.2.2.2.2.1 == (2 : Int)) then
      spec_Ahead_k (u.2.2.2, u.2.2.1) (fun y21 =>
        bif y21 then
          spec_Ahead_k (u.2.2.1, u.2.2.2) (fun y22 =>
            bif y22 then
              k (.inl ())
            else
              lpK spec_Danger_b2 (u.1, u.2.1, u.2.2.1, u.2.2.2) (0 : Int) (Sum.elim (fun _ =>
                k (.inl ())) (fun _ =>
                k (.inr ()))))
        else
          lpK spec_Danger_b2 (u.1, u.2.1, u.2.2.1, u.2.2.2) (0 : Int) (Sum.elim (fun _ =>
            k (.inl ())) (fun _ =>
            k (.inr ()))))
    else
      lpK spec_Danger_b2 (u.1, u.2.1, u.2.2.1, u.2.2.2) (0 : Int) (Sum.elim (fun _ =>
        k (.inl ())) (fun _ =>
        k (.inr ())))

def spec_Danger_b0 : LB ((List dTxn) × dTxn) Int (Int ⊕ (Int ⊕ Int)) := lb fun u x k =>
    let t0 := (u.1, x, u.2, (rd zTxn u.1 x))
    let t1 := (W (x + (1 : Int)))
    bif (decide (x < (u.1.length : Int))) then
      if 0 ≤ x ∧ x < (u.1.length : Int) then
        bif ((rd zTxn u.1 x).2.1 == (2 : Int)) then
          bif (rd zTxn u.1 x).2.2.2.2.2.2.1 then
            spec_Ahead_k (u.2, (rd zTxn u.1 x)) (fun y7 =>
              bif y7 then
                k (.inr (.inl x))
              else
                spec_Danger_j5000009 t0 () (Sum.elim (fun _ =>
                  k (.inr (.inl x))) (fun _ =>
                  k (.inl t1))))
          else
            spec_Danger_j5000009 t0 () (Sum.elim (fun _ =>
              k (.inr (.inl x))) (fun _ =>
              k (.inl t1)))
        else
          bif ((rd zTxn u.1 x).2.1 == (3 : Int)) then
            bif (rd zTxn u.1 x).2.2.2.2.2.2.1 then
              spec_Ahead_k (u.2, (rd zTxn u.1 x)) (fun y12 =>
                bif y12 then
                  k (.inr (.inl x))
                else
                  spec_Danger_j5000009 t0 () (Sum.elim (fun _ =>
                    k (.inr (.inl x))) (fun _ =>
                    k (.inl t1))))
            else
              spec_Danger_j5000009 t0 () (Sum.elim (fun _ =>
                k (.inr (.inl x))) (fun _ =>
                k (.inl t1)))
          else
            spec_Danger_j5000009 t0 () (Sum.elim (fun _ =>
              k (.inr (.inl x))) (fun _ =>
              k (.inl t1)))
      else none
    else
      k (.inr (.inr x))

def spec_Danger_k : FN (dTxn × (List dTxn)) Bool := fn fun x k =>
  spec_InOf_k (x.1, x.2) (fun y1 =>
    bif y1 then
      spec_OutOf_k (x.1, x.2) (fun y2 =>
        bif y2 then
          k true
        else
          lpK spec_Danger_b0 (x.2, x.1) (0 : Int) (Sum.elim (fun _ =>
            k true) (fun _ =>
            k false)))
    else
      lpK spec_Danger_b0 (x.2, x.1) (0 : Int) (Sum.elim (fun _ =>
        k true) (fun _ =>
        k false)))

def spec_l11Full_k : FN dBase Bool := fn fun x k =>
  bif (decide ((x.2.1.length : Int) ≥ (12 : Int))) then
    k true
  else
    bif (decide ((x.1.length : Int) > (100 : Int))) then
      k true
    else
      k (decide (x.2.2.2.1 ≥ (9999 : Int)))

def spec_Judge_k : FN (dEngine × Int) Int := fn fun x k =>
  spec_OpenAt_k (x.1, x.2) (fun y1 =>
    bif (decide (y1 < (0 : Int))) then
      k (1 : Int)
    else
      spec_l11All_k x.1.1 (fun y2 =>
        if 0 ≤ y1 ∧ y1 < (x.1.2.length : Int) then
          spec_Blocked_k ((rd zTxn x.1.2 y1), y2) (fun y3 =>
            bif y3 then
              k (4 : Int)
            else
              if 0 ≤ y1 ∧ y1 < (x.1.2.length : Int) then
                spec_Danger_k ((rd zTxn x.1.2 y1), y2) (fun y4 =>
                  bif y4 then
                    k (5 : Int)
                  else
                    spec_l11Full_k x.1.1 (fun y5 =>
                      bif y5 then
                        k (3 : Int)
                      else
                        k (0 : Int)))
              else none)
        else none))

def spec_OldestOf_b0 : LB (List dTxn) (Int × Int) ((Int × Int) ⊕ (Int × Int)) := lb fun u x k =>
    bif (decide (x.2 < (u.length : Int))) then
      if 0 ≤ x.2 ∧ x.2 < (u.length : Int) then
        bif (decide ((rd zTxn u x.2).2.2.1 < x.1)) then
          if 0 ≤ x.2 ∧ x.2 < (u.length : Int) then
            k (.inl ((rd zTxn u x.2).2.2.1, (W (x.2 + (1 : Int)))))
          else none
        else
          k (.inl (x.1, (W (x.2 + (1 : Int)))))
      else none
    else
      k (.inr (x.1, x.2))

def spec_OldestOf_k : FN (dBase × (List dTxn)) Int := fn fun x k =>
  lpK spec_OldestOf_b0 x.2 (x.1.2.2.2.1, (0 : Int)) (fun z1 =>
    k z1.1)

def spec_Trimmed_b0 : LB ((List dVersion) × Int) (Int × (List dVersion)) ((Int × (List dVersion)) ⊕ (Int × (List dVersion))) := lb fun u x k =>
    bif (decide (x.1 < (u.1.length : Int))) then
      if 0 ≤ x.1 ∧ x.1 < (u.1.length : Int) then
        spec_l06At_k (u.1, (rd zVersion u.1 x.1).1, u.2) (fun y3 =>
          if 0 ≤ x.1 ∧ x.1 < (u.1.length : Int) then
            bif (decide ((rd zVersion u.1 x.1).2.2.2 > u.2)) then
              if 0 ≤ x.1 ∧ x.1 < (u.1.length : Int) then
                if x.2.length + [(rd zVersion u.1 x.1)].length ≤ maxLen then
                  k (.inl ((W (x.1 + (1 : Int))), (x.2 ++ [(rd zVersion u.1 x.1)])))
                else none
              else none
            else
              bif (y3 == x.1) then
                if 0 ≤ x.1 ∧ x.1 < (u.1.length : Int) then
                  if x.2.length + [(rd zVersion u.1 x.1)].length ≤ maxLen then
                    k (.inl ((W (x.1 + (1 : Int))), (x.2 ++ [(rd zVersion u.1 x.1)])))
                  else none
                else none
              else
                k (.inl ((W (x.1 + (1 : Int))), x.2))
          else none)
      else none
    else
      k (.inr (x.1, x.2))

def spec_Trimmed_b4 : LB (Int × Int × (List dVersion) × (List dVersion)) (Int × Int) ((Int × Int) ⊕ (Int × Int)) := lb fun u x k =>
    bif (decide (x.2 < (u.2.2.1.length : Int))) then
      if 0 ≤ x.2 ∧ x.2 < (u.2.2.1.length : Int) then
        if 0 ≤ u.2.1 ∧ u.2.1 < (u.2.2.1.length : Int) then
          bif (strEq ((u.2.2.1.getD x.2.toNat zVersion).1) ((u.2.2.1.getD u.2.1.toNat zVersion).1)) then
            k (.inl ((W (x.1 + (1 : Int))), (W (x.2 + (1 : Int)))))
          else
            k (.inl (x.1, (W (x.2 + (1 : Int)))))
        else none
      else none
    else
      k (.inr (x.1, x.2))

def spec_Trimmed_b2 : LB (Int × (List dVersion)) (Int × (List dVersion)) ((Int × (List dVersion)) ⊕ (Int × (List dVersion))) := lb fun u x k =>
    let t0 := (u.2.getD x.1.toNat zVersion)
    let t1 := (W (x.1 + (1 : Int)))
    bif (decide (x.1 < (u.2.length : Int))) then
      lpK spec_Trimmed_b4 (u.1, x.1, u.2, x.2) ((0 : Int), (0 : Int)) (fun z4 =>
        if 0 ≤ x.1 ∧ x.1 < (u.2.length : Int) then
          bif (!t0.2.2.1) then
            if 0 ≤ x.1 ∧ x.1 < (u.2.length : Int) then
              if x.2.length + [t0].length ≤ maxLen then
                k (.inl (t1, (x.2 ++ [t0])))
              else none
            else none
          else
            if 0 ≤ x.1 ∧ x.1 < (u.2.length : Int) then
              bif (decide (t0.2.2.2 > u.1)) then
                if 0 ≤ x.1 ∧ x.1 < (u.2.length : Int) then
                  if x.2.length + [t0].length ≤ maxLen then
                    k (.inl (t1, (x.2 ++ [t0])))
                  else none
                else none
              else
                bif (decide (z4.1 > (1 : Int))) then
                  if 0 ≤ x.1 ∧ x.1 < (u.2.length : Int) then
                    if x.2.length + [t0].length ≤ maxLen then
                      k (.inl (t1, (x.2 ++ [t0])))
                    else none
                  else none
                else
                  k (.inl (t1, x.2))
            else none
        else none)
    else
      k (.inr (x.1, x.2))

def spec_Trimmed_k : FN ((List dVersion) × Int) (List dVersion) := fn fun x k =>
  lpK spec_Trimmed_b0 (x.1, x.2) ((0 : Int), ([] : List dVersion)) (fun z1 =>
    lpK spec_Trimmed_b2 (x.2, z1.2) ((0 : Int), ([] : List dVersion)) (fun z2 =>
      k z2.2))

def spec_Tidied_b0 : LB (Int × dBase × (Int × Int) × (Int × Int) × (List dVersion) × (List dTxn)) (Int × (List dTxn)) ((Int × (List dTxn)) ⊕ (Int × (List dTxn))) := lb fun u x k =>
    bif (decide (x.1 < (u.2.1.2.1.length : Int))) then
      if 0 ≤ x.1 ∧ x.1 < (u.2.1.2.1.length : Int) then
        bif (decide ((rd zTxn u.2.1.2.1 x.1).2.2.2.1 > u.1)) then
          if 0 ≤ x.1 ∧ x.1 < (u.2.1.2.1.length : Int) then
            spec_l07Copy_k (rd zTxn u.2.1.2.1 x.1) (fun y5 =>
              let y5h := y5.2.2.2.2
              if x.2.length + [(y5.1, (y5.2.1, (y5.2.2.1, (y5.2.2.2.1, (y5h.2.2.1, (y5h.2.2.2, (y5h.1, y5h.2.1)))))))].length ≤ maxLen then
                k (.inl ((W (x.1 + (1 : Int))), (x.2 ++ [(y5.1, (y5.2.1, (y5.2.2.1, (y5.2.2.2.1, (y5h.2.2.1, (y5h.2.2.2, (y5h.1, y5h.2.1)))))))])))
              else none)
          else none
        else
          k (.inl ((W (x.1 + (1 : Int))), x.2))
      else none
    else
      k (.inr (x.1, x.2))

def spec_Tidied_k : FN (dBase × (List dTxn)) dBase := fn fun x k =>
  spec_l09Copy_k x.1 (fun y1 =>
    spec_OldestOf_k (x.1, x.2) (fun y2 =>
      lpK spec_Tidied_b0 (y2, x.1, ((0 : Int), (0 : Int)), (y1.1, y1.2.1), y1.2.2.1, y1.2.2.2.2) ((0 : Int), ([] : List dTxn)) (fun z3 =>
        spec_Trimmed_k (x.1.1, y2) (fun y4 =>
          k (y4, (z3.2, (y1.2.2.2.2, (y1.1, y1.2.1))))))))

def spec_l11Out_b0 : LB (Int × (Int × Int) × (List dVersion) × (List dTxn) × (List dTxn) × (List dTxn)) (Int × (List dTxn)) ((Int × (List dTxn)) ⊕ (Int × (List dTxn))) := lb fun u x k =>
    let uh := u.2.2.2.2
    bif (decide (x.1 < (uh.2.length : Int))) then
      if 0 ≤ x.1 ∧ x.1 < (uh.2.length : Int) then
        bif ((uh.2.getD x.1.toNat zTxn).1 != u.1) then
          if 0 ≤ x.1 ∧ x.1 < (uh.2.length : Int) then
            if x.2.length + [(uh.2.getD x.1.toNat zTxn)].length ≤ maxLen then
              k (.inl ((W (x.1 + (1 : Int))), (x.2 ++ [(uh.2.getD x.1.toNat zTxn)])))
            else none
          else none
        else
          k (.inl ((W (x.1 + (1 : Int))), x.2))
      else none
    else
      k (.inr (x.1, x.2))

def spec_l11Out_k : FN (Int × (Int × Int) × (List dVersion) × (List dTxn) × (List dTxn) × (List dTxn)) (dEngine × (List dVersion) × (List dTxn) × (List dTxn) × (List dTxn)) := fn fun x k =>
  let xh := x.2.2.2.2
  lpK spec_l11Out_b0 (x.1, x.2.1, x.2.2.1, x.2.2.2.1, xh.1, xh.2) ((0 : Int), ([] : List dTxn)) (fun z1 =>
    spec_Tidied_k ((x.2.2.1, (x.2.2.2.1, (xh.1, x.2.1))), z1.2) (fun y2 =>
      k ((y2, z1.2), x.2.2.1, x.2.2.2.1, xh.1, xh.2)))

def spec_PutVersions_b2 : LB ((List dWrite) × Int × Int × (List dVersion) × dVersion) (Int × (List dVersion)) ((Int × (List dVersion)) ⊕ (Int × (List dVersion))) := lb fun u x k =>
    let t0 := (u.2.2.2.1.getD x.1.toNat zVersion)
    bif (decide (x.1 < (u.2.2.2.1.length : Int))) then
      if 0 ≤ x.1 ∧ x.1 < (u.2.2.2.1.length : Int) then
        bif (strLess (t0.1) u.2.2.2.2.1) then
          if 0 ≤ x.1 ∧ x.1 < (u.2.2.2.1.length : Int) then
            if x.2.length + [t0].length ≤ maxLen then
              k (.inl ((W (x.1 + (1 : Int))), (x.2 ++ [t0])))
            else none
          else none
        else
          if 0 ≤ x.1 ∧ x.1 < (u.2.2.2.1.length : Int) then
            bif (strEq (t0.1) u.2.2.2.2.1) then
              if 0 ≤ x.1 ∧ x.1 < (u.2.2.2.1.length : Int) then
                bif (decide (t0.2.2.2 ≤ u.2.2.2.2.2.2.2)) then
                  if 0 ≤ x.1 ∧ x.1 < (u.2.2.2.1.length : Int) then
                    if x.2.length + [t0].length ≤ maxLen then
                      k (.inl ((W (x.1 + (1 : Int))), (x.2 ++ [t0])))
                    else none
                  else none
                else
                  k (.inr (x.1, x.2))
              else none
            else
              k (.inr (x.1, x.2))
          else none
      else none
    else
      k (.inr (x.1, x.2))

def spec_PutVersions_b0 : LB ((List dWrite) × Int) (Int × (List dVersion)) ((Int × (List dVersion)) ⊕ (Int × (List dVersion))) := lb fun u x k =>
    let t0 := ((rd zWrite u.1 x.1).1, ((rd zWrite u.1 x.1).2.1, ((rd zWrite u.1 x.1).2.2, u.2)))
    bif (decide (x.1 < (u.1.length : Int))) then
      if 0 ≤ x.1 ∧ x.1 < (u.1.length : Int) then
        if 0 ≤ x.1 ∧ x.1 < (u.1.length : Int) then
          if 0 ≤ x.1 ∧ x.1 < (u.1.length : Int) then
            lpK spec_PutVersions_b2 (u.1, u.2, x.1, x.2, t0) ((0 : Int), ([] : List dVersion)) (fun z2 =>
              if z2.2.length + [t0].length ≤ maxLen then
                if 0 ≤ z2.1 ∧ z2.1 ≤ (x.2.length : Int) then
                  if (z2.2 ++ [t0]).length + (x.2.drop z2.1.toNat).length ≤ maxLen then
                    k (.inl ((W (x.1 + (1 : Int))), ((z2.2 ++ [t0]) ++ (x.2.drop z2.1.toNat))))
                  else none
                else none
              else none)
          else none
        else none
      else none
    else
      k (.inr (x.1, x.2))

def spec_PutVersions_k : FN ((List dVersion) × (List dWrite) × Int) (List dVersion) := fn fun x k =>
  if ([] : List dVersion).length + x.1.length ≤ maxLen then
    lpK spec_PutVersions_b0 (x.2.1, x.2.2) ((0 : Int), (([] : List dVersion) ++ x.1)) (fun z1 =>
      k z1.2)
  else none

def spec_Through_b0 : LB (dBase × dTxn × (Int × Int) × (Int × Int) × dTxn × (List dVersion) × (List dTxn)) (Int × (List dTxn)) ((Int × (List dTxn)) ⊕ (Int × (List dTxn))) := lb fun u x k =>
    bif (decide (x.1 < (u.1.2.2.1.length : Int))) then
      if 0 ≤ x.1 ∧ x.1 < (u.1.2.2.1.length : Int) then
        spec_l07Copy_k (rd zTxn u.1.2.2.1 x.1) (fun y8 =>
          let y8h := y8.2.2.2.2
          bif (y8.1 == u.2.1.1) then
            k (.inl ((W (x.1 + (1 : Int))), x.2))
          else
            spec_Ahead_k ((y8.1, (y8.2.1, (y8.2.2.1, (y8.2.2.2.1, (y8h.2.2.1, (y8h.2.2.2, (y8h.1, y8h.2.1))))))), u.2.2.2.2.1) (fun y9 =>
              bif y9 then
                if x.2.length + [(y8.1, (y8.2.1, (y8.2.2.1, (y8.2.2.2.1, (y8h.2.2.1, (y8h.2.2.2, (true, y8h.2.1)))))))].length ≤ maxLen then
                  k (.inl ((W (x.1 + (1 : Int))), (x.2 ++ [(y8.1, (y8.2.1, (y8.2.2.1, (y8.2.2.2.1, (y8h.2.2.1, (y8h.2.2.2, (true, y8h.2.1)))))))])))
                else none
              else
                if x.2.length + [(y8.1, (y8.2.1, (y8.2.2.1, (y8.2.2.2.1, (y8h.2.2.1, (y8h.2.2.2, (y8h.1, y8h.2.1)))))))].length ≤ maxLen then
                  k (.inl ((W (x.1 + (1 : Int))), (x.2 ++ [(y8.1, (y8.2.1, (y8.2.2.1, (y8.2.2.2.1, (y8h.2.2.1, (y8h.2.2.2, (y8h.1, y8h.2.1)))))))])))
                else none))
      else none
    else
      k (.inr (x.1, x.2))

def spec_Through_k : FN (dBase × dTxn) (Int × Int × (List dVersion) × (List dTxn) × (List dTxn)) := fn fun x k =>
  let t0 := (W (x.1.2.2.2.1 + (1 : Int)))
  spec_l09Copy_k x.1 (fun y1 =>
    spec_l07Copy_k x.2 (fun y2 =>
      let y2h := y2.2.2.2.2
      bif x.2.2.2.2.2.2.2.1 then
        spec_PutVersions_k (x.1.1, y2h.2.2.2, t0) (fun y3 =>
          if y1.2.2.2.1.length + [(y2.1, ((3 : Int), (y2.2.2.1, (t0, (y2h.2.2.1, (y2h.2.2.2, (true, (⟨#[]⟩ : ByteArray))))))))].length ≤ maxLen then
            lpK spec_Through_b0 (x.1, x.2, ((0 : Int), (0 : Int)), (t0, y1.2.1), (y2.1, ((3 : Int), (y2.2.2.1, (t0, (y2h.2.2.1, (y2h.2.2.2, (true, (⟨#[]⟩ : ByteArray)))))))), y3, (y1.2.2.2.1 ++ [(y2.1, ((3 : Int), (y2.2.2.1, (t0, (y2h.2.2.1, (y2h.2.2.2, (true, (⟨#[]⟩ : ByteArray))))))))])) ((0 : Int), ([] : List dTxn)) (fun z4 =>
              bif (decide (x.2.1 ≥ (t0, y1.2.1).2)) then
                k ((t0, y1.2.1).1, (W (x.2.1 + (1 : Int))), y3, (y1.2.2.2.1 ++ [(y2.1, ((3 : Int), (y2.2.2.1, (t0, (y2h.2.2.1, (y2h.2.2.2, (true, (⟨#[]⟩ : ByteArray))))))))]), z4.2)
              else
                k ((t0, y1.2.1).1, (t0, y1.2.1).2, y3, (y1.2.2.2.1 ++ [(y2.1, ((3 : Int), (y2.2.2.1, (t0, (y2h.2.2.1, (y2h.2.2.2, (true, (⟨#[]⟩ : ByteArray))))))))]), z4.2))
          else none)
      else
        spec_OutOf_k (x.2, x.1.2.1) (fun y5 =>
          spec_PutVersions_k (x.1.1, y2h.2.2.2, t0) (fun y6 =>
            if y1.2.2.2.1.length + [(y2.1, ((3 : Int), (y2.2.2.1, (t0, (y2h.2.2.1, (y2h.2.2.2, (y5, (⟨#[]⟩ : ByteArray))))))))].length ≤ maxLen then
              lpK spec_Through_b0 (x.1, x.2, ((0 : Int), (0 : Int)), (t0, y1.2.1), (y2.1, ((3 : Int), (y2.2.2.1, (t0, (y2h.2.2.1, (y2h.2.2.2, (y5, (⟨#[]⟩ : ByteArray)))))))), y6, (y1.2.2.2.1 ++ [(y2.1, ((3 : Int), (y2.2.2.1, (t0, (y2h.2.2.1, (y2h.2.2.2, (y5, (⟨#[]⟩ : ByteArray))))))))])) ((0 : Int), ([] : List dTxn)) (fun z7 =>
                bif (decide (x.2.1 ≥ (t0, y1.2.1).2)) then
                  k ((t0, y1.2.1).1, (W (x.2.1 + (1 : Int))), y6, (y1.2.2.2.1 ++ [(y2.1, ((3 : Int), (y2.2.2.1, (t0, (y2h.2.2.1, (y2h.2.2.2, (y5, (⟨#[]⟩ : ByteArray))))))))]), z7.2)
                else
                  k ((t0, y1.2.1).1, (t0, y1.2.1).2, y6, (y1.2.2.2.1 ++ [(y2.1, ((3 : Int), (y2.2.2.1, (t0, (y2h.2.2.1, (y2h.2.2.2, (y5, (⟨#[]⟩ : ByteArray))))))))]), z7.2))
            else none))))

def spec_Commit_k : FN (dEngine × Int) (dEngine × Int × Int × Int × Int × Int × (List dRange) × (List dWrite) × Bool × ByteArray × ByteArray × Bool × Int × Int × Int) := fn fun x k =>
  spec_l11Copy_k x.1 (fun y1 =>
    let y1h := y1.2.2.2.2
    spec_Judge_k (x.1, x.2) (fun y2 =>
      bif (y2 == (1 : Int)) then
        k (((y1.2.2.1, (y1.2.2.2.1, (y1h.1, (y1.1, y1.2.1)))), y1h.2), (0 : Int), (0 : Int), (0 : Int), (0 : Int), (0 : Int), ([] : List dRange), ([] : List dWrite), false, (⟨#[]⟩ : ByteArray), (⟨#[]⟩ : ByteArray), false, (0 : Int), (0 : Int), y2)
      else
        bif (y2 != (0 : Int)) then
          spec_l11Out_k (x.2, (y1.1, y1.2.1), y1.2.2.1, y1.2.2.2.1, y1h.1, y1h.2) (fun y3 =>
            k (y3.1, (0 : Int), (0 : Int), (0 : Int), (0 : Int), (0 : Int), ([] : List dRange), ([] : List dWrite), false, (⟨#[]⟩ : ByteArray), (⟨#[]⟩ : ByteArray), false, (0 : Int), (0 : Int), y2))
        else
          spec_OpenAt_k (x.1, x.2) (fun y4 =>
            if 0 ≤ y4 ∧ y4 < (x.1.2.length : Int) then
              spec_Through_k (x.1.1, (rd zTxn x.1.2 y4)) (fun y5 =>
                if 0 ≤ (W ((y5.2.2.2.1.length : Int) - (1 : Int))) ∧ (W ((y5.2.2.2.1.length : Int) - (1 : Int))) < (y5.2.2.2.1.length : Int) then
                  spec_l07Copy_k (y5.2.2.2.1.getD (W ((y5.2.2.2.1.length : Int) - (1 : Int))).toNat zTxn) (fun y6 =>
                    spec_l11Out_k (x.2, (y5.1, y5.2.1), y5.2.2.1, y5.2.2.2.1, y5.2.2.2.2, y1h.2) (fun y7 =>
                      k (y7.1, (1 : Int), y6.1, y6.2.1, y6.2.2.1, y6.2.2.2.1, y6.2.2.2.2.2.2.1, y6.2.2.2.2.2.2.2, y6.2.2.2.2.1, y6.2.2.2.2.2.1, (⟨#[]⟩ : ByteArray), false, (0 : Int), (0 : Int), (0 : Int))))
                else none)
            else none)))

def spec_l10NoTxn_k : FN dTxn Bool := fn fun x k =>
  bif (x.1 == (0 : Int)) then
    bif (x.2.1 == (0 : Int)) then
      bif (x.2.2.1 == (0 : Int)) then
        bif (x.2.2.2.1 == (0 : Int)) then
          bif ((x.2.2.2.2.1.length : Int) == (0 : Int)) then
            bif ((x.2.2.2.2.2.1.length : Int) == (0 : Int)) then
              bif (!x.2.2.2.2.2.2.1) then
                k (strEq x.2.2.2.2.2.2.2 (⟨#[]⟩ : ByteArray))
              else
                k false
            else
              k false
          else
            k false
        else
          k false
      else
        k false
    else
      k false
  else
    k false

def spec_l10NoBase_k : FN dBase Bool := fn fun x k =>
  bif (x.2.2.2.1 == (0 : Int)) then
    bif (x.2.2.2.2 == (0 : Int)) then
      bif ((x.1.length : Int) == (0 : Int)) then
        bif ((x.2.1.length : Int) == (0 : Int)) then
          k ((x.2.2.1.length : Int) == (0 : Int))
        else
          k false
      else
        k false
    else
      k false
  else
    k false

def spec_RecordOk_j5000008 : LB dRecord Unit Bool := lb fun u _ k =>
    bif (u.1 == (4 : Int)) then
      spec_BaseOk_k u.2.2.2.2 (fun y30 =>
        k y30)
    else
      spec_l10NoBase_k u.2.2.2.2 (fun y31 =>
        k y31)

def spec_RecordOk_j5000006 : LB dRecord Unit Bool := lb fun u _ k =>
    bif (u.1 == (3 : Int)) then
      spec_KeyOk_k u.2.2.1 (fun y25 =>
        bif (!y25) then
          k false
        else
          bif (u.1 != (3 : Int)) then
            bif (!(strEq u.2.2.1 (⟨#[]⟩ : ByteArray))) then
              k false
            else
              bif u.2.2.2.1 then
                k false
              else
                spec_RecordOk_j5000008 u () (fun z26 =>
                  k z26)
          else
            spec_RecordOk_j5000008 u () (fun z27 =>
              k z27))
    else
      bif (u.1 != (3 : Int)) then
        bif (!(strEq u.2.2.1 (⟨#[]⟩ : ByteArray))) then
          k false
        else
          bif u.2.2.2.1 then
            k false
          else
            spec_RecordOk_j5000008 u () (fun z28 =>
              k z28)
      else
        spec_RecordOk_j5000008 u () (fun z29 =>
          k z29)

def spec_RecordOk_j5000004 : LB dRecord Bool (Bool ⊕ Bool) := lb fun u x k =>
    bif x then
      spec_TxnOk_k u.2.1 (fun y6 =>
        bif (!y6) then
          k (.inl x)
        else
          bif (!x) then
            spec_l10NoTxn_k u.2.1 (fun y7 =>
              bif (!y7) then
                k (.inl x)
              else
                bif (u.1 == (1 : Int)) then
                  bif (u.2.1.2.1 != (3 : Int)) then
                    k (.inl x)
                  else
                    bif (u.1 == (2 : Int)) then
                      bif (u.2.1.2.1 != (2 : Int)) then
                        k (.inl x)
                      else
                        spec_RecordOk_j5000006 u () (fun z8 =>
                          k (.inr z8))
                    else
                      spec_RecordOk_j5000006 u () (fun z9 =>
                        k (.inr z9))
                else
                  bif (u.1 == (2 : Int)) then
                    bif (u.2.1.2.1 != (2 : Int)) then
                      k (.inl x)
                    else
                      spec_RecordOk_j5000006 u () (fun z10 =>
                        k (.inr z10))
                  else
                    spec_RecordOk_j5000006 u () (fun z11 =>
                      k (.inr z11)))
          else
            bif (u.1 == (1 : Int)) then
              bif (u.2.1.2.1 != (3 : Int)) then
                k (.inl x)
              else
                bif (u.1 == (2 : Int)) then
                  bif (u.2.1.2.1 != (2 : Int)) then
                    k (.inl x)
                  else
                    spec_RecordOk_j5000006 u () (fun z12 =>
                      k (.inr z12))
                else
                  spec_RecordOk_j5000006 u () (fun z13 =>
                    k (.inr z13))
            else
              bif (u.1 == (2 : Int)) then
                bif (u.2.1.2.1 != (2 : Int)) then
                  k (.inl x)
                else
                  spec_RecordOk_j5000006 u () (fun z14 =>
                    k (.inr z14))
              else
                spec_RecordOk_j5000006 u () (fun z15 =>
                  k (.inr z15)))
    else
      bif (!x) then
        spec_l10NoTxn_k u.2.1 (fun y16 =>
          bif (!y16) then
            k (.inl x)
          else
            bif (u.1 == (1 : Int)) then
              bif (u.2.1.2.1 != (3 : Int)) then
                k (.inl x)
              else
                bif (u.1 == (2 : Int)) then
                  bif (u.2.1.2.1 != (2 : Int)) then
                    k (.inl x)
                  else
                    spec_RecordOk_j5000006 u () (fun z17 =>
                      k (.inr z17))
                else
                  spec_RecordOk_j5000006 u () (fun z18 =>
                    k (.inr z18))
            else
              bif (u.1 == (2 : Int)) then
                bif (u.2.1.2.1 != (2 : Int)) then
                  k (.inl x)
                else
                  spec_RecordOk_j5000006 u () (fun z19 =>
                    k (.inr z19))
              else
                spec_RecordOk_j5000006 u () (fun z20 =>
                  k (.inr z20)))
      else
        bif (u.1 == (1 : Int)) then
          bif (u.2.1.2.1 != (3 : Int)) then
            k (.inl x)
          else
            bif (u.1 == (2 : Int)) then
              bif (u.2.1.2.1 != (2 : Int)) then
                k (.inl x)
              else
                spec_RecordOk_j5000006 u () (fun z21 =>
                  k (.inr z21))
            else
              spec_RecordOk_j5000006 u () (fun z22 =>
                k (.inr z22))
        else
          bif (u.1 == (2 : Int)) then
            bif (u.2.1.2.1 != (2 : Int)) then
              k (.inl x)
            else
              spec_RecordOk_j5000006 u () (fun z23 =>
                k (.inr z23))
          else
            spec_RecordOk_j5000006 u () (fun z24 =>
              k (.inr z24))

def spec_RecordOk_k : FN dRecord Bool := fn fun x k =>
  spec_l01In_k (x.1, (1 : Int), (4 : Int)) (fun y1 =>
    bif (!y1) then
      k false
    else
      bif (x.1 == (1 : Int)) then
        spec_RecordOk_j5000004 x true (Sum.elim (fun _ =>
          k false) (fun z3 =>
          k z3))
      else
        spec_RecordOk_j5000004 x (x.1 == (2 : Int)) (Sum.elim (fun _ =>
          k false) (fun z5 =>
          k z5)))

def spec_l01Var_b0 : LB Unit (Int × (List Int)) ((Int × (List Int)) ⊕ (Int × (List Int))) := lb fun _ x k =>
    bif (decide (x.1 > (127 : Int))) then
      if x.2.length + [(W8 (W ((x.1.tmod (128 : Int)) + (128 : Int))))].length ≤ maxLen then
        k (.inl ((W (x.1.tdiv (128 : Int))), (x.2 ++ [(W8 (W ((x.1.tmod (128 : Int)) + (128 : Int))))])))
      else none
    else
      k (.inr (x.1, x.2))

def spec_l01Var_k : FN Int ByteArray := fn fun x k =>
  lpK spec_l01Var_b0 () (x, ([] : List Int)) (fun z1 =>
    if z1.2.length + [(W8 z1.1)].length ≤ maxLen then
      k (bytesOf (z1.2 ++ [(W8 z1.1)]))
    else none)

def spec_l07Short_k : FN ByteArray ByteArray := fn fun x k =>
  spec_l01Var_k (x.size : Int) (fun y1 =>
    if y1.size + x.size ≤ 1099511627776 then
      k (y1 ++ x)
    else none)

def spec_l07Bit_k : FN Bool ByteArray := fn fun x k =>
  bif x then
    k (⟨#[1]⟩ : ByteArray)
  else
    k (⟨#[0]⟩ : ByteArray)

def spec_SumMore_b2 : LB (ByteArray × Int) (Int × Int) ((Int × Int) ⊕ (Int × Int)) := lb fun _ x k =>
    bif (decide (x.2 < (8 : Int))) then
      bif ((x.1.tmod (2 : Int)) == (1 : Int)) then
        k (.inl ((W32 (BitVec.ofInt (IntKind.bits .u32) (W32 (x.1.tdiv (2 : Int))) ^^^ BitVec.ofInt (IntKind.bits .u32) (3558460437 : Int)).toNat), (W (x.2 + (1 : Int)))))
      else
        k (.inl ((W32 (x.1.tdiv (2 : Int))), (W (x.2 + (1 : Int)))))
    else
      k (.inr (x.1, x.2))

def spec_SumMore_b0 : LB ByteArray (Int × Int) ((Int × Int) ⊕ (Int × Int)) := lb fun u x k =>
    bif (decide (x.2 < (u.size : Int))) then
      if 0 ≤ x.2 ∧ x.2 < (u.size : Int) then
        lpK spec_SumMore_b2 (u, x.2) ((W32 (BitVec.ofInt (IntKind.bits .u32) x.1 ^^^ BitVec.ofInt (IntKind.bits .u32) (W32 (bt u x.2))).toNat), (0 : Int)) (fun z2 =>
          k (.inl (z2.1, (W (x.2 + (1 : Int))))))
      else none
    else
      k (.inr (x.1, x.2))

def spec_SumMore_k : FN (Int × ByteArray) Int := fn fun x k =>
  lpK spec_SumMore_b0 x.2 (x.1, (0 : Int)) (fun z1 =>
    k z1.1)

def spec_SumOf_k : FN ByteArray Int := fn fun x k =>
  spec_SumMore_k ((4294967295 : Int), x) (fun y1 =>
    k y1)

def spec_l02Four_k : FN Int ByteArray := fn fun x k =>
  k (bytesOf [(W8 (x.fdiv (16777216 : Int))), (W8 (x.fdiv (65536 : Int))), (W8 (x.fdiv (256 : Int))), (W8 x)])

def spec_Sealed_k : FN ByteArray (ByteArray × Bool) := fn fun x k =>
  bif (decide ((x.size : Int) > (20000 : Int))) then
    k ((⟨#[]⟩ : ByteArray), false)
  else
    spec_SumOf_k x (fun y1 =>
      spec_l02Four_k y1 (fun y2 =>
        if x.size + y2.size ≤ 1099511627776 then
          k ((x ++ y2), true)
        else none))

def spec_TxnText_b0 : LB dTxn (ByteArray × Int) ((ByteArray × Int) ⊕ (ByteArray × Int)) := lb fun u x k =>
    let uh := u.2.2.2.2
    bif (decide (x.2 < (uh.1.length : Int))) then
      if 0 ≤ x.2 ∧ x.2 < (uh.1.length : Int) then
        if 0 ≤ x.2 ∧ x.2 < (uh.1.length : Int) then
          spec_l07Short_k ((rd zRange uh.1 x.2).1) (fun y12 =>
            if x.1.size + y12.size ≤ 1099511627776 then
              spec_l07Short_k ((rd zRange uh.1 x.2).2) (fun y13 =>
                if (x.1 ++ y12).size + y13.size ≤ 1099511627776 then
                  k (.inl (((x.1 ++ y12) ++ y13), (W (x.2 + (1 : Int)))))
                else none)
            else none)
        else none
      else none
    else
      k (.inr (x.1, x.2))

def spec_TxnText_b2 : LB dTxn (ByteArray × Int) ((ByteArray × Int) ⊕ (ByteArray × Int)) := lb fun u x k =>
    let uh := u.2.2.2.2
    bif (decide (x.2 < (uh.2.1.length : Int))) then
      if 0 ≤ x.2 ∧ x.2 < (uh.2.1.length : Int) then
        if 0 ≤ x.2 ∧ x.2 < (uh.2.1.length : Int) then
          if 0 ≤ x.2 ∧ x.2 < (uh.2.1.length : Int) then
            spec_l07Short_k ((rd zWrite uh.2.1 x.2).1) (fun y14 =>
              if x.1.size + y14.size ≤ 1099511627776 then
                spec_l07Short_k ((rd zWrite uh.2.1 x.2).2.1) (fun y15 =>
                  if (x.1 ++ y14).size + y15.size ≤ 1099511627776 then
                    spec_l07Bit_k ((rd zWrite uh.2.1 x.2).2.2) (fun y16 =>
                      if ((x.1 ++ y14) ++ y15).size + y16.size ≤ 1099511627776 then
                        k (.inl ((((x.1 ++ y14) ++ y15) ++ y16), (W (x.2 + (1 : Int)))))
                      else none)
                  else none)
              else none)
          else none
        else none
      else none
    else
      k (.inr (x.1, x.2))

def spec_TxnText_k : FN dTxn (ByteArray × Bool) := fn fun x k =>
  spec_TxnOk_k x (fun y1 =>
    bif (!y1) then
      k ((⟨#[]⟩ : ByteArray), false)
    else
      spec_l01Var_k x.1 (fun y2 =>
        spec_l01Var_k x.2.1 (fun y3 =>
          if y2.size + y3.size ≤ 1099511627776 then
            spec_l01Var_k x.2.2.1 (fun y4 =>
              if (y2 ++ y3).size + y4.size ≤ 1099511627776 then
                spec_l01Var_k x.2.2.2.1 (fun y5 =>
                  if ((y2 ++ y3) ++ y4).size + y5.size ≤ 1099511627776 then
                    spec_l01Var_k (x.2.2.2.2.1.length : Int) (fun y6 =>
                      if (((y2 ++ y3) ++ y4) ++ y5).size + y6.size ≤ 1099511627776 then
                        lpK spec_TxnText_b0 x (((((y2 ++ y3) ++ y4) ++ y5) ++ y6), (0 : Int)) (fun z7 =>
                          spec_l01Var_k (x.2.2.2.2.2.1.length : Int) (fun y8 =>
                            if z7.1.size + y8.size ≤ 1099511627776 then
                              lpK spec_TxnText_b2 x ((z7.1 ++ y8), (0 : Int)) (fun z9 =>
                                spec_l07Bit_k x.2.2.2.2.2.2.1 (fun y10 =>
                                  if z9.1.size + y10.size ≤ 1099511627776 then
                                    spec_l07Short_k x.2.2.2.2.2.2.2 (fun y11 =>
                                      if (z9.1 ++ y10).size + y11.size ≤ 1099511627776 then
                                        k (((z9.1 ++ y10) ++ y11), true)
                                      else none)
                                  else none))
                            else none))
                      else none)
                  else none)
              else none)
          else none)))

def spec_l10Txns_b0 : LB (List dTxn) (ByteArray × Int) ((ByteArray × Int) ⊕ (ByteArray × Int)) := lb fun u x k =>
    bif (decide (x.2 < (u.length : Int))) then
      if 0 ≤ x.2 ∧ x.2 < (u.length : Int) then
        spec_TxnText_k (rd zTxn u x.2) (fun y3 =>
          if x.1.size + y3.1.size ≤ 1099511627776 then
            k (.inl ((x.1 ++ y3.1), (W (x.2 + (1 : Int)))))
          else none)
      else none
    else
      k (.inr (x.1, x.2))

def spec_l10Txns_k : FN (List dTxn) ByteArray := fn fun x k =>
  spec_l01Var_k (x.length : Int) (fun y1 =>
    lpK spec_l10Txns_b0 x (y1, (0 : Int)) (fun z2 =>
      k z2.1))

def spec_BaseText_b0 : LB dBase (ByteArray × Int) ((ByteArray × Int) ⊕ (ByteArray × Int)) := lb fun u x k =>
    bif (decide (x.2 < (u.1.length : Int))) then
      if 0 ≤ x.2 ∧ x.2 < (u.1.length : Int) then
        spec_l07Short_k ((rd zVersion u.1 x.2).1) (fun y8 =>
          if x.1.size + y8.size ≤ 1099511627776 then
            spec_l07Short_k ((rd zVersion u.1 x.2).2.1) (fun y9 =>
              if (x.1 ++ y8).size + y9.size ≤ 1099511627776 then
                spec_l07Bit_k ((rd zVersion u.1 x.2).2.2.1) (fun y10 =>
                  if ((x.1 ++ y8) ++ y9).size + y10.size ≤ 1099511627776 then
                    spec_l01Var_k ((rd zVersion u.1 x.2).2.2.2) (fun y11 =>
                      if (((x.1 ++ y8) ++ y9) ++ y10).size + y11.size ≤ 1099511627776 then
                        k (.inl (((((x.1 ++ y8) ++ y9) ++ y10) ++ y11), (W (x.2 + (1 : Int)))))
                      else none)
                  else none)
              else none)
          else none)
      else none
    else
      k (.inr (x.1, x.2))

def spec_BaseText_k : FN dBase (ByteArray × Bool) := fn fun x k =>
  spec_BaseOk_k x (fun y1 =>
    bif (!y1) then
      k ((⟨#[]⟩ : ByteArray), false)
    else
      spec_l01Var_k x.2.2.2.1 (fun y2 =>
        spec_l01Var_k x.2.2.2.2 (fun y3 =>
          if y2.size + y3.size ≤ 1099511627776 then
            spec_l01Var_k (x.1.length : Int) (fun y4 =>
              if (y2 ++ y3).size + y4.size ≤ 1099511627776 then
                lpK spec_BaseText_b0 x (((y2 ++ y3) ++ y4), (0 : Int)) (fun z5 =>
                  spec_l10Txns_k x.2.1 (fun y6 =>
                    if z5.1.size + y6.size ≤ 1099511627776 then
                      spec_l10Txns_k x.2.2.1 (fun y7 =>
                        if (z5.1 ++ y6).size + y7.size ≤ 1099511627776 then
                          k (((z5.1 ++ y6) ++ y7), true)
                        else none)
                    else none))
              else none)
          else none)))

def spec_RecordText_k : FN dRecord (ByteArray × Bool) := fn fun x k =>
  spec_RecordOk_k x (fun y1 =>
    bif (!y1) then
      k ((⟨#[]⟩ : ByteArray), false)
    else
      bif (x.1 == (3 : Int)) then
        spec_l07Short_k x.2.2.1 (fun y2 =>
          if (bytesOf [(W8 x.1)]).size + y2.size ≤ 1099511627776 then
            spec_l07Bit_k x.2.2.2.1 (fun y3 =>
              if ((bytesOf [(W8 x.1)]) ++ y2).size + y3.size ≤ 1099511627776 then
                spec_Sealed_k (((bytesOf [(W8 x.1)]) ++ y2) ++ y3) (fun y4 =>
                  k (y4.1, y4.2))
              else none)
          else none)
      else
        bif (x.1 == (4 : Int)) then
          spec_BaseText_k x.2.2.2.2 (fun y5 =>
            if (bytesOf [(W8 x.1)]).size + y5.1.size ≤ 1099511627776 then
              spec_Sealed_k ((bytesOf [(W8 x.1)]) ++ y5.1) (fun y6 =>
                k (y6.1, y6.2))
            else none)
        else
          spec_TxnText_k x.2.1 (fun y7 =>
            if (bytesOf [(W8 x.1)]).size + y7.1.size ≤ 1099511627776 then
              spec_Sealed_k ((bytesOf [(W8 x.1)]) ++ y7.1) (fun y8 =>
                k (y8.1, y8.2))
            else none))

def spec_ReadSector_b0 : LB (Int × dDisk) (ByteArray × Int) ((ByteArray × Int) ⊕ ((ByteArray × Int) ⊕ (ByteArray × Int))) := lb fun u x k =>
    bif (decide (x.2 ≥ (0 : Int))) then
      if 0 ≤ x.2 ∧ x.2 < (u.2.2.length : Int) then
        bif ((rd zPut u.2.2 x.2).1 == u.1) then
          if 0 ≤ x.2 ∧ x.2 < (u.2.2.length : Int) then
            k (.inr (.inl ((rd zPut u.2.2 x.2).2, x.2)))
          else none
        else
          k (.inl (x.1, (W (x.2 - (1 : Int)))))
      else none
    else
      k (.inr (.inr (x.1, x.2)))

def spec_ReadSector_k : FN (dDisk × Int) (ByteArray × Bool) := fn fun x k =>
  spec_l01In_k (x.2, (0 : Int), (W ((x.1.1.length : Int) - (1 : Int)))) (fun y1 =>
    bif (!y1) then
      k ((⟨#[]⟩ : ByteArray), false)
    else
      lpK spec_ReadSector_b0 (x.2, x.1) ((⟨#[]⟩ : ByteArray), (W ((x.1.2.length : Int) - (1 : Int)))) (Sum.elim (fun z2 =>
        k (z2.1, true)) (fun _ =>
        if 0 ≤ x.2 ∧ x.2 < (x.1.1.length : Int) then
          k ((rd zStr x.1.1 x.2), true)
        else none)))

def spec_l04Byte_k : FN (dDisk × Int) Int := fn fun x k =>
  spec_ReadSector_k (x.1, x.2) (fun y1 =>
    bif (!y1.2) then
      k (0 : Int)
    else
      bif (strEq y1.1 (⟨#[]⟩ : ByteArray)) then
        k (0 : Int)
      else
        if 0 ≤ (0 : Int) ∧ (0 : Int) < (y1.1.size : Int) then
          k (W (bt y1.1 (0 : Int)))
        else none)

def spec_ActiveOf_k : FN dDisk Int := fn fun x k =>
  spec_l04Byte_k (x, (0 : Int)) (fun y1 =>
    k (y1.tmod (2 : Int)))

def spec_DiskOk_b0 : LB dDisk Int (Int ⊕ (Int ⊕ Int)) := lb fun u x k =>
    bif (decide (x < (u.1.length : Int))) then
      if 0 ≤ x ∧ x < (u.1.length : Int) then
        bif (((rd zStr u.1 x).size : Int) != (64 : Int)) then
          k (.inr (.inl x))
        else
          k (.inl (W (x + (1 : Int))))
      else none
    else
      k (.inr (.inr x))

def spec_DiskOk_b2 : LB dDisk Int (Int ⊕ (Int ⊕ Int)) := lb fun u x k =>
    bif (decide (x < (u.2.length : Int))) then
      if 0 ≤ x ∧ x < (u.2.length : Int) then
        spec_l01In_k ((rd zPut u.2 x).1, (0 : Int), (W ((u.1.length : Int) - (1 : Int)))) (fun y6 =>
          bif (!y6) then
            k (.inr (.inl x))
          else
            if 0 ≤ x ∧ x < (u.2.length : Int) then
              bif (((rd zPut u.2 x).2.size : Int) != (64 : Int)) then
                k (.inr (.inl x))
              else
                k (.inl (W (x + (1 : Int))))
            else none)
      else none
    else
      k (.inr (.inr x))

def spec_DiskOk_k : FN dDisk Bool := fn fun x k =>
  spec_l01In_k ((x.1.length : Int), (1 : Int), (100 : Int)) (fun y1 =>
    bif (!y1) then
      k false
    else
      bif (decide ((x.2.length : Int) > (60 : Int))) then
        k false
      else
        lpK spec_DiskOk_b0 x (0 : Int) (Sum.elim (fun _ =>
          k false) (fun _ =>
          lpK spec_DiskOk_b2 x (0 : Int) (Sum.elim (fun _ =>
            k false) (fun _ =>
            k true)))))

def spec_AreaFirst_k : FN Int Int := fn fun x k =>
  spec_l01In_k (x, (0 : Int), (1 : Int)) (fun y1 =>
    bif (!y1) then
      k (0 : Int)
    else
      k (W ((1 : Int) + (W (x * (48 : Int))))))

def spec_SectorText_b0 : LB (Int × Int × dDisk) (ByteArray × ByteArray × Int) ((ByteArray × ByteArray × Int) ⊕ ((ByteArray × ByteArray × Int) ⊕ (ByteArray × ByteArray × Int))) := lb fun u x k =>
    bif (decide (x.2.2 < u.2.1)) then
      bif (decide (u.1 < (0 : Int))) then
        k (.inr (.inl ((⟨#[]⟩ : ByteArray), x.2.1, x.2.2)))
      else
        bif (decide (u.1 > (u.2.2.1.length : Int))) then
          k (.inr (.inl ((⟨#[]⟩ : ByteArray), x.2.1, x.2.2)))
        else
          spec_ReadSector_k (u.2.2, (W (u.1 + x.2.2))) (fun y4 =>
            bif (!y4.2) then
              k (.inr (.inl ((⟨#[]⟩ : ByteArray), x.2.1, x.2.2)))
            else
              if x.2.1.size + y4.1.size ≤ 1099511627776 then
                k (.inl (x.1, (x.2.1 ++ y4.1), (W (x.2.2 + (1 : Int)))))
              else none)
    else
      k (.inr (.inr (x.1, x.2.1, x.2.2)))

def spec_SectorText_k : FN (dDisk × Int × Int) (ByteArray × Bool) := fn fun x k =>
  spec_l01In_k (x.2.2, (0 : Int), (100 : Int)) (fun y1 =>
    bif (!y1) then
      k ((⟨#[]⟩ : ByteArray), false)
    else
      lpK spec_SectorText_b0 (x.2.1, x.2.2, x.1) ((⟨#[]⟩ : ByteArray), (⟨#[]⟩ : ByteArray), (0 : Int)) (Sum.elim (fun z2 =>
        k (z2.1, false)) (fun z3 =>
        k (z3.2.1, true))))

def spec_CountIn_k : FN (dDisk × Int) Int := fn fun x k =>
  spec_l01In_k (x.2, (0 : Int), (1 : Int)) (fun y1 =>
    bif (!y1) then
      k (0 : Int)
    else
      spec_AreaFirst_k x.2 (fun y2 =>
        spec_l04Byte_k (x.1, y2) (fun y3 =>
          k y3)))

def spec_ReadVar_b0 : LB (ByteArray × Int) (Int × Int × Int) ((Int × Int × Int) ⊕ ((Int × Int × Bool × Int × Int × Int) ⊕ (Int × Int × Int))) := lb fun u x k =>
    let t0 := (W (x.1 + (W (((W (bt u.1 x.2.2)).tmod (128 : Int)) * x.2.1))))
    let t1 := (W (x.2.2 + (1 : Int)))
    bif (decide (x.2.2 < (u.1.size : Int))) then
      bif (decide (x.2.2 < (W (u.2 + (5 : Int))))) then
        if 0 ≤ x.2.2 ∧ x.2.2 < (u.1.size : Int) then
          if 0 ≤ x.2.2 ∧ x.2.2 < (u.1.size : Int) then
            bif (decide ((bt u.1 x.2.2) < (128 : Int))) then
              bif (decide (t0 > (1000000000 : Int))) then
                k (.inr (.inl ((0 : Int), (0 : Int), false, t0, (W (x.2.1 * (128 : Int))), x.2.2)))
              else
                if 0 ≤ u.2 ∧ u.2 ≤ t1 ∧ t1 ≤ (u.1.size : Int) then
                  spec_l01Var_k t0 (fun y4 =>
                    bif (!(strEq y4 (u.1.extract u.2.toNat t1.toNat))) then
                      k (.inr (.inl ((0 : Int), (0 : Int), false, t0, (W (x.2.1 * (128 : Int))), x.2.2)))
                    else
                      k (.inr (.inl (t0, t1, true, t0, (W (x.2.1 * (128 : Int))), x.2.2))))
                else none
            else
              k (.inl (t0, (W (x.2.1 * (128 : Int))), t1))
          else none
        else none
      else
        k (.inr (.inr (x.1, x.2.1, x.2.2)))
    else
      k (.inr (.inr (x.1, x.2.1, x.2.2)))

def spec_ReadVar_k : FN (ByteArray × Int) (Int × Int × Bool) := fn fun x k =>
  spec_l01In_k (x.2, (0 : Int), (x.1.size : Int)) (fun y1 =>
    bif (!y1) then
      k ((0 : Int), (0 : Int), false)
    else
      lpK spec_ReadVar_b0 (x.1, x.2) ((0 : Int), (1 : Int), x.2) (Sum.elim (fun z2 =>
        k (z2.1, z2.2.1, z2.2.2.1)) (fun _ =>
        k ((0 : Int), (0 : Int), false))))

def spec_ReadShort_k : FN (ByteArray × Int) (ByteArray × Int × Bool) := fn fun x k =>
  spec_ReadVar_k (x.1, x.2) (fun y1 =>
    bif (!y1.2.2) then
      k ((⟨#[]⟩ : ByteArray), (0 : Int), false)
    else
      bif (decide (y1.1 > (20000 : Int))) then
        k ((⟨#[]⟩ : ByteArray), (0 : Int), false)
      else
        bif (decide (y1.1 > (W ((x.1.size : Int) - y1.2.1)))) then
          k ((⟨#[]⟩ : ByteArray), (0 : Int), false)
        else
          if 0 ≤ y1.2.1 ∧ y1.2.1 ≤ (W (y1.2.1 + y1.1)) ∧ (W (y1.2.1 + y1.1)) ≤ (x.1.size : Int) then
            k ((x.1.extract y1.2.1.toNat (W (y1.2.1 + y1.1)).toNat), (W (y1.2.1 + y1.1)), true)
          else none)

def spec_ReadArea_b0 : LB (Int × ByteArray × dDisk) (Int × Int × (List ByteArray) × (List ByteArray) × (List ByteArray)) ((Int × Int × (List ByteArray) × (List ByteArray) × (List ByteArray)) ⊕ ((Int × Int × (List ByteArray) × (List ByteArray)) ⊕ (Int × Int × (List ByteArray) × (List ByteArray) × (List ByteArray)))) := lb fun u x k =>
    let xh := x.2.2.2.2
    spec_CountIn_k (u.2.2, u.1) (fun y6 =>
      bif (decide (x.2.1 < y6)) then
        spec_ReadShort_k (u.2.1, x.1) (fun y7 =>
          bif (!y7.2.2) then
            k (.inr (.inl (x.1, x.2.1, x.2.2.2.1, xh)))
          else
            bif (strEq y7.1 (⟨#[]⟩ : ByteArray)) then
              k (.inr (.inl (x.1, x.2.1, x.2.2.2.1, xh)))
            else
              if xh.length + [y7.1].length ≤ maxLen then
                k (.inl (y7.2.1, (W (x.2.1 + (1 : Int))), x.2.2.1, x.2.2.2.1, (xh ++ [y7.1])))
              else none)
      else
        k (.inr (.inr (x.1, x.2.1, x.2.2.1, x.2.2.2.1, xh))))

def spec_ReadArea_k : FN (dDisk × Int) (Int × Bool × (List ByteArray)) := fn fun x k =>
  spec_l01In_k (x.2, (0 : Int), (1 : Int)) (fun y1 =>
    bif (!y1) then
      k ((0 : Int), false, ([] : List ByteArray))
    else
      spec_AreaFirst_k x.2 (fun y2 =>
        spec_SectorText_k (x.1, (W (y2 + (1 : Int))), (47 : Int)) (fun y3 =>
          bif (!y3.2) then
            k ((0 : Int), false, ([] : List ByteArray))
          else
            lpK spec_ReadArea_b0 (x.2, y3.1, x.1) ((0 : Int), (0 : Int), ([] : List ByteArray), ([] : List ByteArray), ([] : List ByteArray)) (Sum.elim (fun z4 =>
              k ((0 : Int), false, z4.2.2.1)) (fun z5 =>
              k (z5.1, true, z5.2.2.2.2))))))

def spec_LogOk_k : FN dDisk Bool := fn fun x k =>
  spec_DiskOk_k x (fun y1 =>
    bif (!y1) then
      k false
    else
      spec_l04Sectors_k () (fun y2 =>
        bif ((x.1.length : Int) != y2) then
          k false
        else
          bif (decide ((x.2.length : Int) > (0 : Int))) then
            k false
          else
            spec_ReadArea_k (x, (0 : Int)) (fun y3 =>
              spec_ReadArea_k (x, (1 : Int)) (fun y4 =>
                bif y3.2.1 then
                  k y4.2.1
                else
                  k false))))

def spec_l03Copy_j3500001 : LB dDisk ((List ByteArray) × (List dPut)) ((List ByteArray) × (List dPut)) := lb fun u _ k =>
    if ([] : List ByteArray).length + u.1.length ≤ maxLen then
      if ([] : List dPut).length + u.2.length ≤ maxLen then
        k ((([] : List ByteArray) ++ u.1), (([] : List dPut) ++ u.2))
      else none
    else none

def spec_l03Copy_k : FN dDisk ((List ByteArray) × (List dPut)) := fn fun x k =>
  spec_l03Copy_j3500001 x (([] : List ByteArray), ([] : List dPut)) (fun z1 =>
    k (z1.1, z1.2))

def spec_WriteSector_k : FN (dDisk × Int × ByteArray) (dDisk × Bool) := fn fun x k =>
  spec_l03Copy_k x.1 (fun y1 =>
    spec_DiskOk_k x.1 (fun y2 =>
      bif (!y2) then
        k (y1, false)
      else
        spec_l01In_k (x.2.1, (0 : Int), (W ((x.1.1.length : Int) - (1 : Int)))) (fun y3 =>
          bif (!y3) then
            k (y1, false)
          else
            bif ((x.2.2.size : Int) != (64 : Int)) then
              k (y1, false)
            else
              bif (decide ((x.1.2.length : Int) ≥ (60 : Int))) then
                k (y1, false)
              else
                if y1.2.length + [x.2].length ≤ maxLen then
                  k ((y1.1, (y1.2 ++ [x.2])), true)
                else none)))

def spec_WriteBytes_j5000011 : LB (Int × Int × ByteArray × Int × Int × Int × dDisk) (Int × dDisk × dDisk) ((Int × dDisk × dDisk) ⊕ (Int × dDisk × dDisk)) := lb fun u x k =>
    let uh := u.2.2.2.2
    let t0 := (W (x.1 + uh.2.1))
    let t1 := (W (uh.1 + uh.2.1))
    spec_ReadSector_k (x.2.2, u.2.2.2.1) (fun y11 =>
      bif (!y11.2) then
        spec_l03Copy_k uh.2.2 (fun y12 =>
          k (.inl (x.1, y12, x.2.2)))
      else
        bif ((y11.1.size : Int) != (64 : Int)) then
          spec_l03Copy_k uh.2.2 (fun y13 =>
            k (.inl (x.1, y13, x.2.2)))
        else
          if 0 ≤ (0 : Int) ∧ (0 : Int) ≤ uh.1 ∧ uh.1 ≤ (y11.1.size : Int) then
            if 0 ≤ x.1 ∧ x.1 ≤ t0 ∧ t0 ≤ (u.2.2.1.size : Int) then
              if (y11.1.extract (0 : Int).toNat uh.1.toNat).size + (u.2.2.1.extract x.1.toNat t0.toNat).size ≤ 1099511627776 then
                if 0 ≤ t1 ∧ t1 ≤ (y11.1.size : Int) ∧ (y11.1.size : Int) ≤ (y11.1.size : Int) then
                  if ((y11.1.extract (0 : Int).toNat uh.1.toNat) ++ (u.2.2.1.extract x.1.toNat t0.toNat)).size + (y11.1.extract t1.toNat (y11.1.size : Int).toNat).size ≤ 1099511627776 then
                    spec_WriteSector_k (x.2.2, u.2.2.2.1, (((y11.1.extract (0 : Int).toNat uh.1.toNat) ++ (u.2.2.1.extract x.1.toNat t0.toNat)) ++ (y11.1.extract t1.toNat (y11.1.size : Int).toNat))) (fun y14 =>
                      bif (!y14.2) then
                        spec_l03Copy_k uh.2.2 (fun y15 =>
                          k (.inl (x.1, y15, x.2.2)))
                      else
                        k (.inr (t0, x.2.1, y14.1)))
                  else none
                else none
              else none
            else none
          else none)

def spec_WriteBytes_b0 : LB (Int × Int × ByteArray × dDisk) (Int × dDisk × dDisk) ((Int × dDisk × dDisk) ⊕ ((Int × dDisk × dDisk) ⊕ (Int × dDisk × dDisk))) := lb fun u x k =>
    bif (decide (x.1 < (u.2.2.1.size : Int))) then
      bif (decide ((W ((64 : Int) - ((W (u.2.1 + x.1)).tmod (64 : Int)))) > (W ((u.2.2.1.size : Int) - x.1)))) then
        spec_WriteBytes_j5000011 (u.1, u.2.1, u.2.2.1, (W (u.1 + (W ((W (u.2.1 + x.1)).tdiv (64 : Int))))), ((W (u.2.1 + x.1)).tmod (64 : Int)), (W ((u.2.2.1.size : Int) - x.1)), u.2.2.2) (x.1, x.2.1, x.2.2) (Sum.elim (fun z7 =>
          k (.inr (.inr (z7.1, z7.2.1, z7.2.2)))) (fun z8 =>
          k (.inl (z8.1, z8.2.1, z8.2.2))))
      else
        spec_WriteBytes_j5000011 (u.1, u.2.1, u.2.2.1, (W (u.1 + (W ((W (u.2.1 + x.1)).tdiv (64 : Int))))), ((W (u.2.1 + x.1)).tmod (64 : Int)), (W ((64 : Int) - ((W (u.2.1 + x.1)).tmod (64 : Int)))), u.2.2.2) (x.1, x.2.1, x.2.2) (Sum.elim (fun z9 =>
          k (.inr (.inr (z9.1, z9.2.1, z9.2.2)))) (fun z10 =>
          k (.inl (z10.1, z10.2.1, z10.2.2))))
    else
      k (.inr (.inl (x.1, x.2.1, x.2.2)))

def spec_WriteBytes_k : FN (dDisk × Int × Int × ByteArray) (dDisk × Bool) := fn fun x k =>
  spec_l03Copy_k x.1 (fun y1 =>
    spec_l01In_k (x.2.2.1, (0 : Int), (6400 : Int)) (fun y2 =>
      bif (!y2) then
        k (y1, false)
      else
        spec_l01In_k (x.2.1, (0 : Int), (W ((x.1.1.length : Int) - (1 : Int)))) (fun y3 =>
          bif (!y3) then
            k (y1, false)
          else
            spec_DiskOk_k x.1 (fun y4 =>
              bif (!y4) then
                k (y1, false)
              else
                lpK spec_WriteBytes_b0 (x.2.1, x.2.2.1, x.2.2.2, x.1) ((0 : Int), (([] : List ByteArray), ([] : List dPut)), y1) (Sum.elim (fun z5 =>
                  k (z5.2.2, true)) (fun z6 =>
                  k (z6.2.1, false)))))))

def spec_l04Begin_k : FN (dDisk × Int × ByteArray) (dDisk × Bool) := fn fun x k =>
  spec_ReadArea_k (x.1, x.2.1) (fun y1 =>
    bif (!y1.2.1) then
      spec_l03Copy_k x.1 (fun y2 =>
        k (y2, false))
    else
      bif (strEq x.2.2 (⟨#[]⟩ : ByteArray)) then
        spec_l03Copy_k x.1 (fun y3 =>
          k (y3, false))
      else
        bif (decide ((x.2.2.size : Int) > (3008 : Int))) then
          spec_l03Copy_k x.1 (fun y4 =>
            k (y4, false))
        else
          spec_CountIn_k (x.1, x.2.1) (fun y5 =>
            bif (decide (y5 ≥ (255 : Int))) then
              spec_l03Copy_k x.1 (fun y6 =>
                k (y6, false))
            else
              spec_l01Var_k (x.2.2.size : Int) (fun y7 =>
                if y7.size + x.2.2.size ≤ 1099511627776 then
                  bif (decide (((y7 ++ x.2.2).size : Int) > (W ((3008 : Int) - y1.1)))) then
                    spec_l03Copy_k x.1 (fun y8 =>
                      k (y8, false))
                  else
                    spec_AreaFirst_k x.2.1 (fun y9 =>
                      spec_WriteBytes_k (x.1, (W (y9 + (1 : Int))), y1.1, (y7 ++ x.2.2)) (fun y10 =>
                        k (y10.1, y10.2)))
                else none)))

def spec_FlushDisk_b0 : LB (dDisk × (List dPut)) (Int × (List ByteArray)) ((Int × (List ByteArray)) ⊕ (Int × (List ByteArray))) := lb fun u x k =>
    bif (decide (x.1 < (u.1.2.length : Int))) then
      if 0 ≤ x.1 ∧ x.1 < (u.1.2.length : Int) then
        if 0 ≤ x.1 ∧ x.1 < (u.1.2.length : Int) then
          if 0 ≤ (rd zPut u.1.2 x.1).1 ∧ (rd zPut u.1.2 x.1).1 < (x.2.length : Int) then
            k (.inl ((W (x.1 + (1 : Int))), (x.2.set (rd zPut u.1.2 x.1).1.toNat (rd zPut u.1.2 x.1).2)))
          else none
        else none
      else none
    else
      k (.inr (x.1, x.2))

def spec_FlushDisk_k : FN dDisk dDisk := fn fun x k =>
  spec_l03Copy_k x (fun y1 =>
    spec_DiskOk_k x (fun y2 =>
      bif (!y2) then
        k y1
      else
        lpK spec_FlushDisk_b0 (x, y1.2) ((0 : Int), y1.1) (fun z3 =>
          k (z3.2, ([] : List dPut)))))

def spec_l04One_k : FN Int ByteArray := fn fun x k =>
  k (bytesOf [(W8 x)])

def spec_l04Count_k : FN (dDisk × Int × Int) (dDisk × Bool) := fn fun x k =>
  spec_AreaFirst_k x.2.1 (fun y1 =>
    spec_l04One_k x.2.2 (fun y2 =>
      spec_WriteBytes_k (x.1, y1, (0 : Int), y2) (fun y3 =>
        k (y3.1, y3.2))))

def spec_l04Put_k : FN (dDisk × Int × ByteArray) (dDisk × Bool) := fn fun x k =>
  spec_l04Begin_k (x.1, x.2.1, x.2.2) (fun y1 =>
    bif (!y1.2) then
      k (y1.1, false)
    else
      spec_FlushDisk_k y1.1 (fun y2 =>
        spec_CountIn_k (x.1, x.2.1) (fun y3 =>
          spec_l04Count_k (y2, x.2.1, (W (y3 + (1 : Int)))) (fun y4 =>
            spec_FlushDisk_k y4.1 (fun y5 =>
              k (y5, y4.2))))))

def spec_PutRecord_k : FN (dDisk × Int × ByteArray) (dDisk × Bool) := fn fun x k =>
  spec_LogOk_k x.1 (fun y1 =>
    bif (!y1) then
      spec_l03Copy_k x.1 (fun y2 =>
        k (y2, false))
    else
      spec_l01In_k (x.2.1, (0 : Int), (1 : Int)) (fun y3 =>
        bif (!y3) then
          spec_l03Copy_k x.1 (fun y4 =>
            k (y4, false))
        else
          spec_l04Put_k (x.1, x.2.1, x.2.2) (fun y5 =>
            bif (!y5.2) then
              spec_l03Copy_k x.1 (fun y6 =>
                k (y6, false))
            else
              k (y5.1, true))))

def spec_AppendLog_k : FN (dDisk × ByteArray) (dDisk × Bool) := fn fun x k =>
  spec_ActiveOf_k x.1 (fun y1 =>
    spec_PutRecord_k (x.1, y1, x.2) (fun y2 =>
      k (y2.1, y2.2)))

def spec_LogTexts_k : FN dDisk (List ByteArray) := fn fun x k =>
  spec_ActiveOf_k x (fun y1 =>
    spec_ReadArea_k (x, y1) (fun y2 =>
      k y2.2.2))

def spec_Unsealed_k : FN ByteArray (ByteArray × Bool) := fn fun x k =>
  let t0 := (W ((x.size : Int) - (4 : Int)))
  bif (decide (t0 < (0 : Int))) then
    k ((⟨#[]⟩ : ByteArray), false)
  else
    bif (decide (t0 > (20000 : Int))) then
      k ((⟨#[]⟩ : ByteArray), false)
    else
      if 0 ≤ t0 ∧ t0 ≤ (x.size : Int) ∧ (x.size : Int) ≤ (x.size : Int) then
        if 0 ≤ (0 : Int) ∧ (0 : Int) ≤ t0 ∧ t0 ≤ (x.size : Int) then
          spec_SumOf_k (x.extract (0 : Int).toNat t0.toNat) (fun y1 =>
            spec_l02Four_k y1 (fun y2 =>
              bif (!(strEq (x.extract t0.toNat (x.size : Int).toNat) y2)) then
                k ((⟨#[]⟩ : ByteArray), false)
              else
                if 0 ≤ (0 : Int) ∧ (0 : Int) ≤ t0 ∧ t0 ≤ (x.size : Int) then
                  k ((x.extract (0 : Int).toNat t0.toNat), true)
                else none))
        else none
      else none

def spec_l07ReadShort_k : FN (ByteArray × (Int × Bool)) (ByteArray × (ByteArray × (Int × Bool))) := fn fun x k =>
  spec_ReadShort_k (x.1, x.2.1) (fun y1 =>
    bif x.2.2 then
      k ((⟨#[]⟩ : ByteArray), (x.1, (x.2.1, true)))
    else
      bif (!y1.2.2) then
        k ((⟨#[]⟩ : ByteArray), (x.1, (x.2.1, true)))
      else
        k (y1.1, (x.1, (y1.2.1, x.2.2))))

def spec_l07ReadBit_k : FN (ByteArray × (Int × Bool)) (Bool × (ByteArray × (Int × Bool))) := fn fun x k =>
  bif x.2.2 then
    k (false, (x.1, (x.2.1, true)))
  else
    bif (decide (x.2.1 ≥ (x.1.size : Int))) then
      k (false, (x.1, (x.2.1, true)))
    else
      if 0 ≤ x.2.1 ∧ x.2.1 < (x.1.size : Int) then
        bif (decide ((bt x.1 x.2.1) > (1 : Int))) then
          k (false, (x.1, (x.2.1, true)))
        else
          if 0 ≤ (W ((W (x.2.1 + (1 : Int))) - (1 : Int))) ∧ (W ((W (x.2.1 + (1 : Int))) - (1 : Int))) < (x.1.size : Int) then
            k (((bt x.1 (W ((W (x.2.1 + (1 : Int))) - (1 : Int)))) == (1 : Int)), (x.1, ((W (x.2.1 + (1 : Int))), x.2.2)))
          else none
      else none

def spec_l07Var_k : FN (ByteArray × (Int × Bool)) (Int × (ByteArray × (Int × Bool))) := fn fun x k =>
  spec_ReadVar_k (x.1, x.2.1) (fun y1 =>
    bif x.2.2 then
      k ((0 : Int), (x.1, (x.2.1, true)))
    else
      bif (!y1.2.2) then
        k ((0 : Int), (x.1, (x.2.1, true)))
      else
        k (y1.1, (x.1, (y1.2.1, x.2.2))))

def spec_ReadTxn_b0 : LB (Int × (Bool × ByteArray) × Int × Int × Int × Int × (Bool × ByteArray)) (Int × (ByteArray × (Int × Bool)) × (List dRange)) ((Int × (ByteArray × (Int × Bool)) × (List dRange)) ⊕ (Int × (ByteArray × (Int × Bool)) × (List dRange))) := lb fun u x k =>
    bif (decide (x.1 < u.1)) then
      bif (decide (x.1 < (10 : Int))) then
        bif (!x.2.1.2.2) then
          spec_l07ReadShort_k x.2.1 (fun y12 =>
            spec_l07ReadShort_k y12.2 (fun y13 =>
              if x.2.2.length + [(y12.1, y13.1)].length ≤ maxLen then
                k (.inl ((W (x.1 + (1 : Int))), y13.2, (x.2.2 ++ [(y12.1, y13.1)])))
              else none))
        else
          k (.inr (x.1, x.2.1, x.2.2))
      else
        k (.inr (x.1, x.2.1, x.2.2))
    else
      k (.inr (x.1, x.2.1, x.2.2))

def spec_ReadTxn_b2 : LB (Int × (Bool × ByteArray) × Int × Int × Int × Int × (Bool × ByteArray) × (List dRange)) (Int × (ByteArray × (Int × Bool)) × (List dWrite)) ((Int × (ByteArray × (Int × Bool)) × (List dWrite)) ⊕ (Int × (ByteArray × (Int × Bool)) × (List dWrite))) := lb fun u x k =>
    bif (decide (x.1 < u.1)) then
      bif (decide (x.1 < (10 : Int))) then
        bif (!x.2.1.2.2) then
          spec_l07ReadShort_k x.2.1 (fun y14 =>
            spec_l07ReadShort_k y14.2 (fun y15 =>
              spec_l07ReadBit_k y15.2 (fun y16 =>
                if x.2.2.length + [(y14.1, (y15.1, y16.1))].length ≤ maxLen then
                  k (.inl ((W (x.1 + (1 : Int))), y16.2, (x.2.2 ++ [(y14.1, (y15.1, y16.1))])))
                else none)))
        else
          k (.inr (x.1, x.2.1, x.2.2))
      else
        k (.inr (x.1, x.2.1, x.2.2))
    else
      k (.inr (x.1, x.2.1, x.2.2))

def spec_ReadTxn_k : FN (ByteArray × Int) (dTxn × Int × Bool) := fn fun x k =>
  let t0 := (((0 : Int), ((0 : Int), ((0 : Int), ((0 : Int), (([] : List dRange), (([] : List dWrite), (false, (⟨#[]⟩ : ByteArray)))))))), (0 : Int), false)
  spec_l07Var_k (x.1, (x.2, false)) (fun y1 =>
    spec_l07Var_k y1.2 (fun y2 =>
      spec_l07Var_k y2.2 (fun y3 =>
        spec_l07Var_k y3.2 (fun y4 =>
          spec_l07Var_k y4.2 (fun y5 =>
            lpK spec_ReadTxn_b0 (y5.1, (false, (⟨#[]⟩ : ByteArray)), y1.1, y2.1, y3.1, y4.1, (false, (⟨#[]⟩ : ByteArray))) ((0 : Int), y5.2, ([] : List dRange)) (fun z6 =>
              spec_l07Var_k z6.2.1 (fun y7 =>
                lpK spec_ReadTxn_b2 (y7.1, (false, (⟨#[]⟩ : ByteArray)), y1.1, y2.1, y3.1, y4.1, (false, (⟨#[]⟩ : ByteArray)), z6.2.2) ((0 : Int), y7.2, ([] : List dWrite)) (fun z8 =>
                  spec_l07ReadBit_k z8.2.1 (fun y9 =>
                    spec_l07ReadShort_k y9.2 (fun y10 =>
                      bif y10.2.2.2 then
                        k t0
                      else
                        spec_TxnOk_k (y1.1, (y2.1, (y3.1, (y4.1, (z6.2.2, (z8.2.2, (y9.1, y10.1))))))) (fun y11 =>
                          bif (!y11) then
                            k t0
                          else
                            k ((y1.1, (y2.1, (y3.1, (y4.1, (z6.2.2, (z8.2.2, (y9.1, y10.1))))))), y10.2.2.1, true))))))))))))

def spec_l10ReadTxns_b0 : LB (Int × Int) (Int × (ByteArray × (Int × Bool)) × (List dTxn) × (List dTxn)) ((Int × (ByteArray × (Int × Bool)) × (List dTxn) × (List dTxn)) ⊕ ((Int × (ByteArray × (Int × Bool)) × (List dTxn)) ⊕ (Int × (ByteArray × (Int × Bool)) × (List dTxn) × (List dTxn)))) := lb fun u x k =>
    bif (decide (x.1 < u.2)) then
      bif (decide (x.1 ≤ u.1)) then
        bif (!x.2.1.2.2) then
          spec_ReadTxn_k (x.2.1.1, x.2.1.2.1) (fun y4 =>
            bif (!y4.2.2) then
              k (.inr (.inl (x.1, (x.2.1.1, (x.2.1.2.1, true)), x.2.2.2)))
            else
              if x.2.2.2.length + [y4.1].length ≤ maxLen then
                k (.inl ((W (x.1 + (1 : Int))), (x.2.1.1, (y4.2.1, x.2.1.2.2)), x.2.2.1, (x.2.2.2 ++ [y4.1])))
              else none)
        else
          k (.inr (.inr (x.1, x.2.1, x.2.2.1, x.2.2.2)))
      else
        k (.inr (.inr (x.1, x.2.1, x.2.2.1, x.2.2.2)))
    else
      k (.inr (.inr (x.1, x.2.1, x.2.2.1, x.2.2.2)))

def spec_l10ReadTxns_k : FN (Int × (ByteArray × (Int × Bool))) ((ByteArray × (Int × Bool)) × (List dTxn)) := fn fun x k =>
  spec_l07Var_k x.2 (fun y1 =>
    lpK spec_l10ReadTxns_b0 (x.1, y1.1) ((0 : Int), y1.2, ([] : List dTxn), ([] : List dTxn)) (Sum.elim (fun z2 =>
      k (z2.2.1, z2.2.2)) (fun z3 =>
      k (z3.2.1, z3.2.2.2))))

def spec_ReadBase_b0 : LB (Int × (Int × Int) × (Int × Int)) (Int × (ByteArray × (Int × Bool)) × (List dVersion)) ((Int × (ByteArray × (Int × Bool)) × (List dVersion)) ⊕ (Int × (ByteArray × (Int × Bool)) × (List dVersion))) := lb fun u x k =>
    bif (decide (x.1 < u.1)) then
      bif (decide (x.1 < (130 : Int))) then
        bif (!x.2.1.2.2) then
          spec_l07ReadShort_k x.2.1 (fun y8 =>
            spec_l07ReadShort_k y8.2 (fun y9 =>
              spec_l07ReadBit_k y9.2 (fun y10 =>
                spec_l07Var_k y10.2 (fun y11 =>
                  if x.2.2.length + [(y8.1, (y9.1, (y10.1, y11.1)))].length ≤ maxLen then
                    k (.inl ((W (x.1 + (1 : Int))), y11.2, (x.2.2 ++ [(y8.1, (y9.1, (y10.1, y11.1)))])))
                  else none))))
        else
          k (.inr (x.1, x.2.1, x.2.2))
      else
        k (.inr (x.1, x.2.1, x.2.2))
    else
      k (.inr (x.1, x.2.1, x.2.2))

def spec_ReadBase_k : FN (ByteArray × Int) (dBase × Int × Bool) := fn fun x k =>
  spec_l07Var_k (x.1, (x.2, false)) (fun y1 =>
    spec_l07Var_k y1.2 (fun y2 =>
      spec_l07Var_k y2.2 (fun y3 =>
        lpK spec_ReadBase_b0 (y3.1, ((0 : Int), (0 : Int)), (y1.1, y2.1)) ((0 : Int), y3.2, ([] : List dVersion)) (fun z4 =>
          spec_l10ReadTxns_k ((12 : Int), z4.2.1) (fun y5 =>
            spec_l10ReadTxns_k ((3 : Int), y5.1) (fun y6 =>
              bif y6.1.2.2 then
                k ((([] : List dVersion), (([] : List dTxn), (([] : List dTxn), ((0 : Int), (0 : Int))))), (0 : Int), false)
              else
                spec_BaseOk_k (z4.2.2, (y5.2, (y6.2, (y1.1, y2.1)))) (fun y7 =>
                  bif (!y7) then
                    k ((([] : List dVersion), (([] : List dTxn), (([] : List dTxn), ((0 : Int), (0 : Int))))), (0 : Int), false)
                  else
                    k ((z4.2.2, (y5.2, (y6.2, (y1.1, y2.1)))), y6.1.2.1, true))))))))

def spec_ReadRecord_k : FN ByteArray (dRecord × Bool) := fn fun x k =>
  let t0 := (((0 : Int), (((0 : Int), ((0 : Int), ((0 : Int), ((0 : Int), (([] : List dRange), (([] : List dWrite), (false, (⟨#[]⟩ : ByteArray)))))))), ((⟨#[]⟩ : ByteArray), (false, (([] : List dVersion), (([] : List dTxn), (([] : List dTxn), ((0 : Int), (0 : Int))))))))), false)
  let t1 := ((0 : Int), ((0 : Int), ((0 : Int), ((0 : Int), (([] : List dRange), (([] : List dWrite), (false, (⟨#[]⟩ : ByteArray))))))))
  let t2 := (([] : List dVersion), (([] : List dTxn), (([] : List dTxn), ((0 : Int), (0 : Int)))))
  spec_Unsealed_k x (fun y1 =>
    bif (!y1.2) then
      k t0
    else
      bif (strEq y1.1 (⟨#[]⟩ : ByteArray)) then
        k t0
      else
        if 0 ≤ (0 : Int) ∧ (0 : Int) < (y1.1.size : Int) then
          bif ((W (bt y1.1 (0 : Int))) == (3 : Int)) then
            spec_l07ReadShort_k (y1.1, ((1 : Int), false)) (fun y2 =>
              spec_l07ReadBit_k y2.2 (fun y3 =>
                spec_RecordText_k ((W (bt y1.1 (0 : Int))), (t1, (y2.1, (y3.1, t2)))) (fun y4 =>
                  bif (!y4.2) then
                    k t0
                  else
                    bif (!(strEq y4.1 x)) then
                      k t0
                    else
                      k (((W (bt y1.1 (0 : Int))), (t1, (y2.1, (y3.1, t2)))), true))))
          else
            bif ((W (bt y1.1 (0 : Int))) == (4 : Int)) then
              spec_ReadBase_k (y1.1, (1 : Int)) (fun y5 =>
                spec_RecordText_k ((W (bt y1.1 (0 : Int))), (t1, ((⟨#[]⟩ : ByteArray), (false, y5.1)))) (fun y6 =>
                  bif (!y6.2) then
                    k t0
                  else
                    bif (!(strEq y6.1 x)) then
                      k t0
                    else
                      k (((W (bt y1.1 (0 : Int))), (t1, ((⟨#[]⟩ : ByteArray), (false, y5.1)))), true)))
            else
              spec_ReadTxn_k (y1.1, (1 : Int)) (fun y7 =>
                spec_RecordText_k ((W (bt y1.1 (0 : Int))), (y7.1, ((⟨#[]⟩ : ByteArray), (false, t2)))) (fun y8 =>
                  bif (!y8.2) then
                    k t0
                  else
                    bif (!(strEq y8.1 x)) then
                      k t0
                    else
                      k (((W (bt y1.1 (0 : Int))), (y7.1, ((⟨#[]⟩ : ByteArray), (false, t2)))), true)))
        else none)

def spec_ReadyAt_b0 : LB (ByteArray × dBase) Int (Int ⊕ ((Int × Int) ⊕ Int)) := lb fun u x k =>
    bif (decide (x < (u.2.2.2.1.length : Int))) then
      if 0 ≤ x ∧ x < (u.2.2.2.1.length : Int) then
        bif (strEq ((rd zTxn u.2.2.2.1 x).2.2.2.2.2.2.2) u.1) then
          k (.inr (.inl (x, x)))
        else
          k (.inl (W (x + (1 : Int))))
      else none
    else
      k (.inr (.inr x))

def spec_ReadyAt_k : FN (dBase × ByteArray) Int := fn fun x k =>
  lpK spec_ReadyAt_b0 (x.2, x.1) (0 : Int) (Sum.elim (fun z1 =>
    k z1.1) (fun _ =>
    k (-1 : Int)))

def spec_MadeReady_b0 : LB (ByteArray × dBase × dTxn × (Int × Int) × (Int × Int) × Int × Int × Int × (Bool × ByteArray) × (List dVersion) × (List dTxn) × (List dRange) × (List dWrite)) (Int × (List dTxn)) ((Int × (List dTxn)) ⊕ (Int × (List dTxn))) := lb fun u x k =>
    bif (decide (x.1 < (u.2.1.2.2.1.length : Int))) then
      if 0 ≤ x.1 ∧ x.1 < (u.2.1.2.2.1.length : Int) then
        bif (strLess ((rd zTxn u.2.1.2.2.1 x.1).2.2.2.2.2.2.2) u.1) then
          if 0 ≤ x.1 ∧ x.1 < (u.2.1.2.2.1.length : Int) then
            spec_l07Copy_k (rd zTxn u.2.1.2.2.1 x.1) (fun y8 =>
              let y8h := y8.2.2.2.2
              if x.2.length + [(y8.1, (y8.2.1, (y8.2.2.1, (y8.2.2.2.1, (y8h.2.2.1, (y8h.2.2.2, (y8h.1, y8h.2.1)))))))].length ≤ maxLen then
                k (.inl ((W (x.1 + (1 : Int))), (x.2 ++ [(y8.1, (y8.2.1, (y8.2.2.1, (y8.2.2.2.1, (y8h.2.2.1, (y8h.2.2.2, (y8h.1, y8h.2.1)))))))])))
              else none)
          else none
        else
          k (.inl ((W (x.1 + (1 : Int))), x.2))
      else none
    else
      k (.inr (x.1, x.2))

def spec_MadeReady_b2 : LB (ByteArray × dBase × dTxn × (Int × Int) × (Int × Int) × (List dVersion) × (List dTxn)) (Int × (List dTxn)) ((Int × (List dTxn)) ⊕ (Int × (List dTxn))) := lb fun u x k =>
    bif (decide (x.1 < (u.2.1.2.2.1.length : Int))) then
      if 0 ≤ x.1 ∧ x.1 < (u.2.1.2.2.1.length : Int) then
        bif (!(strLess ((rd zTxn u.2.1.2.2.1 x.1).2.2.2.2.2.2.2) u.1)) then
          if 0 ≤ x.1 ∧ x.1 < (u.2.1.2.2.1.length : Int) then
            spec_l07Copy_k (rd zTxn u.2.1.2.2.1 x.1) (fun y9 =>
              let y9h := y9.2.2.2.2
              if x.2.length + [(y9.1, (y9.2.1, (y9.2.2.1, (y9.2.2.2.1, (y9h.2.2.1, (y9h.2.2.2, (y9h.1, y9h.2.1)))))))].length ≤ maxLen then
                k (.inl ((W (x.1 + (1 : Int))), (x.2 ++ [(y9.1, (y9.2.1, (y9.2.2.1, (y9.2.2.2.1, (y9h.2.2.1, (y9h.2.2.2, (y9h.1, y9h.2.1)))))))])))
              else none)
          else none
        else
          k (.inl ((W (x.1 + (1 : Int))), x.2))
      else none
    else
      k (.inr (x.1, x.2))

def spec_MadeReady_k : FN (dBase × dTxn × ByteArray) (Int × Int × (List dVersion) × (List dTxn) × (List dTxn)) := fn fun x k =>
  spec_l09Copy_k x.1 (fun y1 =>
    spec_l07Copy_k x.2.1 (fun y2 =>
      let y2h := y2.2.2.2.2
      bif x.2.1.2.2.2.2.2.2.1 then
        lpK spec_MadeReady_b0 (x.2.2, x.1, x.2.1, ((0 : Int), (0 : Int)), (y1.1, y1.2.1), y2.1, y2.2.2.1, y2.2.2.2.1, (true, x.2.2), y1.2.2.1, y1.2.2.2.1, y2h.2.2.1, y2h.2.2.2) ((0 : Int), ([] : List dTxn)) (fun z3 =>
          if z3.2.length + [(y2.1, ((2 : Int), (y2.2.2.1, (y2.2.2.2.1, (y2h.2.2.1, (y2h.2.2.2, (true, x.2.2)))))))].length ≤ maxLen then
            lpK spec_MadeReady_b2 (x.2.2, x.1, x.2.1, ((0 : Int), (0 : Int)), (y1.1, y1.2.1), y1.2.2.1, y1.2.2.2.1) ((0 : Int), (z3.2 ++ [(y2.1, ((2 : Int), (y2.2.2.1, (y2.2.2.2.1, (y2h.2.2.1, (y2h.2.2.2, (true, x.2.2)))))))])) (fun z4 =>
              bif (decide (x.2.1.1 ≥ (y1.1, y1.2.1).2)) then
                k ((y1.1, y1.2.1).1, (W (x.2.1.1 + (1 : Int))), y1.2.2.1, y1.2.2.2.1, z4.2)
              else
                k ((y1.1, y1.2.1).1, (y1.1, y1.2.1).2, y1.2.2.1, y1.2.2.2.1, z4.2))
          else none)
      else
        spec_OutOf_k (x.2.1, x.1.2.1) (fun y5 =>
          lpK spec_MadeReady_b0 (x.2.2, x.1, x.2.1, ((0 : Int), (0 : Int)), (y1.1, y1.2.1), y2.1, y2.2.2.1, y2.2.2.2.1, (y5, x.2.2), y1.2.2.1, y1.2.2.2.1, y2h.2.2.1, y2h.2.2.2) ((0 : Int), ([] : List dTxn)) (fun z6 =>
            if z6.2.length + [(y2.1, ((2 : Int), (y2.2.2.1, (y2.2.2.2.1, (y2h.2.2.1, (y2h.2.2.2, (y5, x.2.2)))))))].length ≤ maxLen then
              lpK spec_MadeReady_b2 (x.2.2, x.1, x.2.1, ((0 : Int), (0 : Int)), (y1.1, y1.2.1), y1.2.2.1, y1.2.2.2.1) ((0 : Int), (z6.2 ++ [(y2.1, ((2 : Int), (y2.2.2.1, (y2.2.2.2.1, (y2h.2.2.1, (y2h.2.2.2, (y5, x.2.2)))))))])) (fun z7 =>
                bif (decide (x.2.1.1 ≥ (y1.1, y1.2.1).2)) then
                  k ((y1.1, y1.2.1).1, (W (x.2.1.1 + (1 : Int))), y1.2.2.1, y1.2.2.2.1, z7.2)
                else
                  k ((y1.1, y1.2.1).1, (y1.1, y1.2.1).2, y1.2.2.1, y1.2.2.2.1, z7.2))
            else none))))

def spec_GivenUp_b0 : LB (ByteArray × dBase × (Int × Int) × (Int × Int) × (List dVersion) × (List dTxn)) (Int × (List dTxn)) ((Int × (List dTxn)) ⊕ (Int × (List dTxn))) := lb fun u x k =>
    bif (decide (x.1 < (u.2.1.2.2.1.length : Int))) then
      if 0 ≤ x.1 ∧ x.1 < (u.2.1.2.2.1.length : Int) then
        bif (!(strEq ((rd zTxn u.2.1.2.2.1 x.1).2.2.2.2.2.2.2) u.1)) then
          if 0 ≤ x.1 ∧ x.1 < (u.2.1.2.2.1.length : Int) then
            spec_l07Copy_k (rd zTxn u.2.1.2.2.1 x.1) (fun y3 =>
              let y3h := y3.2.2.2.2
              if x.2.length + [(y3.1, (y3.2.1, (y3.2.2.1, (y3.2.2.2.1, (y3h.2.2.1, (y3h.2.2.2, (y3h.1, y3h.2.1)))))))].length ≤ maxLen then
                k (.inl ((W (x.1 + (1 : Int))), (x.2 ++ [(y3.1, (y3.2.1, (y3.2.2.1, (y3.2.2.2.1, (y3h.2.2.1, (y3h.2.2.2, (y3h.1, y3h.2.1)))))))])))
              else none)
          else none
        else
          k (.inl ((W (x.1 + (1 : Int))), x.2))
      else none
    else
      k (.inr (x.1, x.2))

def spec_GivenUp_k : FN (dBase × ByteArray) dBase := fn fun x k =>
  spec_l09Copy_k x.1 (fun y1 =>
    lpK spec_GivenUp_b0 (x.2, x.1, ((0 : Int), (0 : Int)), (y1.1, y1.2.1), y1.2.2.1, y1.2.2.2.1) ((0 : Int), ([] : List dTxn)) (fun z2 =>
      k (y1.2.2.1, (y1.2.2.2.1, (z2.2, (y1.1, y1.2.1))))))

def spec_l10Play_k : FN (dBase × dRecord) (dBase × Bool) := fn fun x k =>
  bif (x.2.1 == (1 : Int)) then
    bif (x.2.2.1.2.2.2.1 != (W (x.1.2.2.2.1 + (1 : Int)))) then
      k (x.1, false)
    else
      spec_Through_k (x.1, x.2.2.1) (fun y1 =>
        k ((y1.2.2.1, (y1.2.2.2.1, (y1.2.2.2.2, (y1.1, y1.2.1)))), true))
  else
    bif (x.2.1 == (2 : Int)) then
      bif (decide ((x.1.2.2.1.length : Int) ≥ (3 : Int))) then
        k (x.1, false)
      else
        spec_ReadyAt_k (x.1, x.2.2.1.2.2.2.2.2.2.2) (fun y2 =>
          bif (decide (y2 ≥ (0 : Int))) then
            k (x.1, false)
          else
            spec_MadeReady_k (x.1, x.2.2.1, x.2.2.1.2.2.2.2.2.2.2) (fun y3 =>
              k ((y3.2.2.1, (y3.2.2.2.1, (y3.2.2.2.2, (y3.1, y3.2.1)))), true)))
    else
      bif (x.2.1 == (3 : Int)) then
        spec_ReadyAt_k (x.1, x.2.2.2.1) (fun y4 =>
          bif (decide (y4 < (0 : Int))) then
            k (x.1, false)
          else
            bif x.2.2.2.2.1 then
              if 0 ≤ y4 ∧ y4 < (x.1.2.2.1.length : Int) then
                spec_Through_k (x.1, (rd zTxn x.1.2.2.1 y4)) (fun y5 =>
                  k ((y5.2.2.1, (y5.2.2.2.1, (y5.2.2.2.2, (y5.1, y5.2.1)))), true))
              else none
            else
              spec_GivenUp_k (x.1, x.2.2.2.1) (fun y6 =>
                k (y6, true)))
      else
        spec_l09Copy_k x.2.2.2.2.2 (fun y7 =>
          k ((y7.2.2.1, (y7.2.2.2.1, (y7.2.2.2.2, (y7.1, y7.2.1)))), true))

def spec_Played_k : FN (dBase × dRecord) (dBase × Bool) := fn fun x k =>
  spec_BaseOk_k x.1 (fun y1 =>
    bif (!y1) then
      spec_l09Copy_k x.1 (fun y2 =>
        k ((y2.2.2.1, (y2.2.2.2.1, (y2.2.2.2.2, (y2.1, y2.2.1)))), false))
    else
      spec_RecordOk_k x.2 (fun y3 =>
        bif (!y3) then
          spec_l09Copy_k x.1 (fun y4 =>
            k ((y4.2.2.1, (y4.2.2.2.1, (y4.2.2.2.2, (y4.1, y4.2.1)))), false))
        else
          spec_l10Play_k (x.1, x.2) (fun y5 =>
            bif (!y5.2) then
              spec_l09Copy_k x.1 (fun y6 =>
                k ((y6.2.2.1, (y6.2.2.2.1, (y6.2.2.2.2, (y6.1, y6.2.1)))), false))
            else
              spec_Tidied_k (y5.1, ([] : List dTxn)) (fun y7 =>
                spec_BaseOk_k y7 (fun y8 =>
                  bif (!y8) then
                    spec_l09Copy_k x.1 (fun y9 =>
                      k ((y9.2.2.1, (y9.2.2.2.1, (y9.2.2.2.2, (y9.1, y9.2.1)))), false))
                  else
                    k (y7, true))))))

def spec_PlayLog_b0 : LB (List ByteArray) (Int × (Int × Int) × dBase) ((Int × (Int × Int) × dBase) ⊕ ((Int × (Int × Int) × dBase) ⊕ (Int × (Int × Int) × dBase))) := lb fun u x k =>
    bif (decide (x.1 < (u.length : Int))) then
      if 0 ≤ x.1 ∧ x.1 < (u.length : Int) then
        spec_ReadRecord_k (rd zStr u x.1) (fun y5 =>
          spec_Played_k (x.2.2, y5.1) (fun y6 =>
            bif (!y5.2) then
              k (.inr (.inl (x.1, ((0 : Int), (0 : Int)), x.2.2)))
            else
              bif (!y6.2) then
                k (.inr (.inl (x.1, ((0 : Int), (0 : Int)), x.2.2)))
              else
                k (.inl ((W (x.1 + (1 : Int))), x.2.1, y6.1))))
      else none
    else
      k (.inr (.inr (x.1, x.2.1, x.2.2)))

def spec_PlayLog_k : FN dDisk (dBase × Bool) := fn fun x k =>
  spec_BaseNew_k () (fun y1 =>
    spec_LogTexts_k x (fun y2 =>
      lpK spec_PlayLog_b0 y2 ((0 : Int), ((0 : Int), (0 : Int)), (([] : List dVersion), (([] : List dTxn), (([] : List dTxn), y1)))) (Sum.elim (fun z3 =>
        k ((([] : List dVersion), (([] : List dTxn), (([] : List dTxn), z3.2.1))), false)) (fun z4 =>
        k (z4.2.2, true)))))

def spec_l04Fill_b0 : LB ((List ByteArray) × Int) (Bool × Int × dDisk) ((Bool × Int × dDisk) ⊕ (Bool × Int × dDisk)) := lb fun u x k =>
    bif (decide (x.2.1 < (u.1.length : Int))) then
      bif x.1 then
        if 0 ≤ x.2.1 ∧ x.2.1 < (u.1.length : Int) then
          spec_l04Put_k (x.2.2, u.2, (rd zStr u.1 x.2.1)) (fun y5 =>
            k (.inl (y5.2, (W (x.2.1 + (1 : Int))), y5.1)))
        else none
      else
        k (.inr (x.1, x.2.1, x.2.2))
    else
      k (.inr (x.1, x.2.1, x.2.2))

def spec_l04Fill_k : FN (dDisk × (List ByteArray)) (dDisk × Bool) := fn fun x k =>
  spec_ActiveOf_k x.1 (fun y1 =>
    spec_l04Count_k (x.1, (W ((1 : Int) - y1)), (0 : Int)) (fun y2 =>
      spec_FlushDisk_k y2.1 (fun y3 =>
        lpK spec_l04Fill_b0 (x.2, (W ((1 : Int) - y1))) (y2.2, (0 : Int), y3) (fun z4 =>
          k (z4.2.2, z4.1)))))

def spec_l04Turn_k : FN dDisk (dDisk × Bool) := fn fun x k =>
  spec_l04Byte_k (x, (0 : Int)) (fun y1 =>
    spec_l04One_k (W (y1 + (1 : Int))) (fun y2 =>
      spec_WriteBytes_k (x, (0 : Int), (0 : Int), y2) (fun y3 =>
        k (y3.1, y3.2))))

def spec_SwitchLog_k : FN (dDisk × (List ByteArray)) (dDisk × Bool) := fn fun x k =>
  spec_LogOk_k x.1 (fun y1 =>
    bif (!y1) then
      spec_l03Copy_k x.1 (fun y2 =>
        k (y2, false))
    else
      spec_l04Fill_k (x.1, x.2) (fun y3 =>
        bif (!y3.2) then
          spec_l03Copy_k x.1 (fun y4 =>
            k (y4, false))
        else
          spec_l04Turn_k y3.1 (fun y5 =>
            bif (!y5.2) then
              spec_l03Copy_k x.1 (fun y6 =>
                k (y6, false))
            else
              spec_FlushDisk_k y5.1 (fun y7 =>
                k (y7, true)))))

def spec_l12Fixed_k : FN dDisk (dDisk × Bool) := fn fun x k =>
  spec_PlayLog_k x (fun y1 =>
    spec_RecordText_k ((4 : Int), (((0 : Int), ((0 : Int), ((0 : Int), ((0 : Int), (([] : List dRange), (([] : List dWrite), (false, (⟨#[]⟩ : ByteArray)))))))), ((⟨#[]⟩ : ByteArray), (false, y1.1)))) (fun y2 =>
      bif (!y1.2) then
        spec_l03Copy_k x (fun y3 =>
          k (y3, false))
      else
        bif (!y2.2) then
          spec_l03Copy_k x (fun y4 =>
            k (y4, false))
        else
          spec_SwitchLog_k (x, [y2.1]) (fun y5 =>
            k (y5.1, y5.2))))

def spec_ReadyDanger_b2 : LB ((List dTxn) × Bool × Int × dTxn × dTxn) Int (Int ⊕ (Int ⊕ Int)) := lb fun u x k =>
    bif (decide (x < (u.1.length : Int))) then
      if 0 ≤ x ∧ x < (u.1.length : Int) then
        bif ((rd zTxn u.1 x).2.1 == (2 : Int)) then
          if 0 ≤ x ∧ x < (u.1.length : Int) then
            bif ((rd zTxn u.1 x).1 != u.2.2.2.1.1) then
              if 0 ≤ x ∧ x < (u.1.length : Int) then
                spec_Ahead_k (u.2.2.2.2, (rd zTxn u.1 x)) (fun y8 =>
                  bif y8 then
                    k (.inr (.inl x))
                  else
                    k (.inl (W (x + (1 : Int)))))
              else none
            else
              k (.inl (W (x + (1 : Int))))
          else none
        else
          k (.inl (W (x + (1 : Int))))
      else none
    else
      k (.inr (.inr x))

def spec_ReadyDanger_b0 : LB ((List dTxn) × Bool × dTxn) Int (Int ⊕ (Int ⊕ Int)) := lb fun u x k =>
    bif (decide (x < (u.1.length : Int))) then
      if 0 ≤ x ∧ x < (u.1.length : Int) then
        bif ((rd zTxn u.1 x).2.1 != (2 : Int)) then
          k (.inl (W (x + (1 : Int))))
        else
          spec_Ahead_k (u.2.2, (rd zTxn u.1 x)) (fun y5 =>
            bif (!y5) then
              k (.inl (W (x + (1 : Int))))
            else
              bif u.2.1 then
                k (.inr (.inl x))
              else
                lpK spec_ReadyDanger_b2 (u.1, u.2.1, x, u.2.2, (rd zTxn u.1 x)) (0 : Int) (Sum.elim (fun _ =>
                  k (.inr (.inl x))) (fun _ =>
                  k (.inl (W (x + (1 : Int)))))))
      else none
    else
      k (.inr (.inr x))

def spec_ReadyDanger_k : FN (dTxn × (List dTxn)) Bool := fn fun x k =>
  spec_Danger_k (x.1, x.2) (fun y1 =>
    bif y1 then
      k true
    else
      spec_InOf_k (x.1, x.2) (fun y2 =>
        lpK spec_ReadyDanger_b0 (x.2, y2, x.1) (0 : Int) (Sum.elim (fun _ =>
          k true) (fun _ =>
          k false))))

def spec_Prepare_k : FN (dEngine × Int × ByteArray) (dEngine × Int × Int × Int × Int × Int × (List dRange) × (List dWrite) × Bool × ByteArray × ByteArray × Bool × Int × Int × Int) := fn fun x k =>
  spec_l11Copy_k x.1 (fun y1 =>
    let y1h := y1.2.2.2.2
    spec_OpenAt_k (x.1, x.2.1) (fun y2 =>
      bif (decide (y2 < (0 : Int))) then
        k (((y1.2.2.1, (y1.2.2.2.1, (y1h.1, (y1.1, y1.2.1)))), y1h.2), (0 : Int), (0 : Int), (0 : Int), (0 : Int), (0 : Int), ([] : List dRange), ([] : List dWrite), false, (⟨#[]⟩ : ByteArray), (⟨#[]⟩ : ByteArray), false, (0 : Int), (0 : Int), (1 : Int))
      else
        spec_KeyOk_k x.2.2 (fun y3 =>
          bif (!y3) then
            k (((y1.2.2.1, (y1.2.2.2.1, (y1h.1, (y1.1, y1.2.1)))), y1h.2), (0 : Int), (0 : Int), (0 : Int), (0 : Int), (0 : Int), ([] : List dRange), ([] : List dWrite), false, (⟨#[]⟩ : ByteArray), (⟨#[]⟩ : ByteArray), false, (0 : Int), (0 : Int), (2 : Int))
          else
            spec_ReadyAt_k (x.1.1, x.2.2) (fun y4 =>
              bif (decide (y4 ≥ (0 : Int))) then
                k (((y1.2.2.1, (y1.2.2.2.1, (y1h.1, (y1.1, y1.2.1)))), y1h.2), (0 : Int), (0 : Int), (0 : Int), (0 : Int), (0 : Int), ([] : List dRange), ([] : List dWrite), false, (⟨#[]⟩ : ByteArray), (⟨#[]⟩ : ByteArray), false, (0 : Int), (0 : Int), (6 : Int))
              else
                spec_Judge_k (x.1, x.2.1) (fun y5 =>
                  bif (y5 == (0 : Int)) then
                    if 0 ≤ y2 ∧ y2 < (x.1.2.length : Int) then
                      spec_l11All_k x.1.1 (fun y6 =>
                        spec_ReadyDanger_k ((rd zTxn x.1.2 y2), y6) (fun y7 =>
                          bif y7 then
                            spec_l11Out_k (x.2.1, (y1.1, y1.2.1), y1.2.2.1, y1.2.2.2.1, y1h.1, y1h.2) (fun y8 =>
                              k (y8.1, (0 : Int), (0 : Int), (0 : Int), (0 : Int), (0 : Int), ([] : List dRange), ([] : List dWrite), false, (⟨#[]⟩ : ByteArray), (⟨#[]⟩ : ByteArray), false, (0 : Int), (0 : Int), (5 : Int)))
                          else
                            bif (y5 == (0 : Int)) then
                              bif (decide ((x.1.1.2.2.1.length : Int) ≥ (3 : Int))) then
                                spec_l11Out_k (x.2.1, (y1.1, y1.2.1), y1.2.2.1, y1.2.2.2.1, y1h.1, y1h.2) (fun y9 =>
                                  k (y9.1, (0 : Int), (0 : Int), (0 : Int), (0 : Int), (0 : Int), ([] : List dRange), ([] : List dWrite), false, (⟨#[]⟩ : ByteArray), (⟨#[]⟩ : ByteArray), false, (0 : Int), (0 : Int), (3 : Int)))
                              else
                                bif (y5 != (0 : Int)) then
                                  spec_l11Out_k (x.2.1, (y1.1, y1.2.1), y1.2.2.1, y1.2.2.2.1, y1h.1, y1h.2) (fun y10 =>
                                    k (y10.1, (0 : Int), (0 : Int), (0 : Int), (0 : Int), (0 : Int), ([] : List dRange), ([] : List dWrite), false, (⟨#[]⟩ : ByteArray), (⟨#[]⟩ : ByteArray), false, (0 : Int), (0 : Int), y5))
                                else
                                  if 0 ≤ y2 ∧ y2 < (x.1.2.length : Int) then
                                    spec_MadeReady_k (x.1.1, (rd zTxn x.1.2 y2), x.2.2) (fun y11 =>
                                      spec_ReadyAt_k ((y11.2.2.1, (y11.2.2.2.1, (y11.2.2.2.2, (y11.1, y11.2.1)))), x.2.2) (fun y12 =>
                                        if 0 ≤ y12 ∧ y12 < (y11.2.2.2.2.length : Int) then
                                          spec_l07Copy_k (y11.2.2.2.2.getD y12.toNat zTxn) (fun y13 =>
                                            spec_l11Out_k (x.2.1, (y11.1, y11.2.1), y11.2.2.1, y11.2.2.2.1, y11.2.2.2.2, y1h.2) (fun y14 =>
                                              k (y14.1, (2 : Int), y13.1, y13.2.1, y13.2.2.1, y13.2.2.2.1, y13.2.2.2.2.2.2.1, y13.2.2.2.2.2.2.2, y13.2.2.2.2.1, y13.2.2.2.2.2.1, (⟨#[]⟩ : ByteArray), false, (0 : Int), (0 : Int), (0 : Int))))
                                        else none))
                                  else none
                            else
                              bif (y5 != (0 : Int)) then
                                spec_l11Out_k (x.2.1, (y1.1, y1.2.1), y1.2.2.1, y1.2.2.2.1, y1h.1, y1h.2) (fun y15 =>
                                  k (y15.1, (0 : Int), (0 : Int), (0 : Int), (0 : Int), (0 : Int), ([] : List dRange), ([] : List dWrite), false, (⟨#[]⟩ : ByteArray), (⟨#[]⟩ : ByteArray), false, (0 : Int), (0 : Int), y5))
                              else
                                if 0 ≤ y2 ∧ y2 < (x.1.2.length : Int) then
                                  spec_MadeReady_k (x.1.1, (rd zTxn x.1.2 y2), x.2.2) (fun y16 =>
                                    spec_ReadyAt_k ((y16.2.2.1, (y16.2.2.2.1, (y16.2.2.2.2, (y16.1, y16.2.1)))), x.2.2) (fun y17 =>
                                      if 0 ≤ y17 ∧ y17 < (y16.2.2.2.2.length : Int) then
                                        spec_l07Copy_k (y16.2.2.2.2.getD y17.toNat zTxn) (fun y18 =>
                                          spec_l11Out_k (x.2.1, (y16.1, y16.2.1), y16.2.2.1, y16.2.2.2.1, y16.2.2.2.2, y1h.2) (fun y19 =>
                                            k (y19.1, (2 : Int), y18.1, y18.2.1, y18.2.2.1, y18.2.2.2.1, y18.2.2.2.2.2.2.1, y18.2.2.2.2.2.2.2, y18.2.2.2.2.1, y18.2.2.2.2.2.1, (⟨#[]⟩ : ByteArray), false, (0 : Int), (0 : Int), (0 : Int))))
                                      else none))
                                else none))
                    else none
                  else
                    bif (y5 == (0 : Int)) then
                      bif (decide ((x.1.1.2.2.1.length : Int) ≥ (3 : Int))) then
                        spec_l11Out_k (x.2.1, (y1.1, y1.2.1), y1.2.2.1, y1.2.2.2.1, y1h.1, y1h.2) (fun y20 =>
                          k (y20.1, (0 : Int), (0 : Int), (0 : Int), (0 : Int), (0 : Int), ([] : List dRange), ([] : List dWrite), false, (⟨#[]⟩ : ByteArray), (⟨#[]⟩ : ByteArray), false, (0 : Int), (0 : Int), (3 : Int)))
                      else
                        bif (y5 != (0 : Int)) then
                          spec_l11Out_k (x.2.1, (y1.1, y1.2.1), y1.2.2.1, y1.2.2.2.1, y1h.1, y1h.2) (fun y21 =>
                            k (y21.1, (0 : Int), (0 : Int), (0 : Int), (0 : Int), (0 : Int), ([] : List dRange), ([] : List dWrite), false, (⟨#[]⟩ : ByteArray), (⟨#[]⟩ : ByteArray), false, (0 : Int), (0 : Int), y5))
                        else
                          if 0 ≤ y2 ∧ y2 < (x.1.2.length : Int) then
                            spec_MadeReady_k (x.1.1, (rd zTxn x.1.2 y2), x.2.2) (fun y22 =>
                              spec_ReadyAt_k ((y22.2.2.1, (y22.2.2.2.1, (y22.2.2.2.2, (y22.1, y22.2.1)))), x.2.2) (fun y23 =>
                                if 0 ≤ y23 ∧ y23 < (y22.2.2.2.2.length : Int) then
                                  spec_l07Copy_k (y22.2.2.2.2.getD y23.toNat zTxn) (fun y24 =>
                                    spec_l11Out_k (x.2.1, (y22.1, y22.2.1), y22.2.2.1, y22.2.2.2.1, y22.2.2.2.2, y1h.2) (fun y25 =>
                                      k (y25.1, (2 : Int), y24.1, y24.2.1, y24.2.2.1, y24.2.2.2.1, y24.2.2.2.2.2.2.1, y24.2.2.2.2.2.2.2, y24.2.2.2.2.1, y24.2.2.2.2.2.1, (⟨#[]⟩ : ByteArray), false, (0 : Int), (0 : Int), (0 : Int))))
                                else none))
                          else none
                    else
                      bif (y5 != (0 : Int)) then
                        spec_l11Out_k (x.2.1, (y1.1, y1.2.1), y1.2.2.1, y1.2.2.2.1, y1h.1, y1h.2) (fun y26 =>
                          k (y26.1, (0 : Int), (0 : Int), (0 : Int), (0 : Int), (0 : Int), ([] : List dRange), ([] : List dWrite), false, (⟨#[]⟩ : ByteArray), (⟨#[]⟩ : ByteArray), false, (0 : Int), (0 : Int), y5))
                      else
                        if 0 ≤ y2 ∧ y2 < (x.1.2.length : Int) then
                          spec_MadeReady_k (x.1.1, (rd zTxn x.1.2 y2), x.2.2) (fun y27 =>
                            spec_ReadyAt_k ((y27.2.2.1, (y27.2.2.2.1, (y27.2.2.2.2, (y27.1, y27.2.1)))), x.2.2) (fun y28 =>
                              if 0 ≤ y28 ∧ y28 < (y27.2.2.2.2.length : Int) then
                                spec_l07Copy_k (y27.2.2.2.2.getD y28.toNat zTxn) (fun y29 =>
                                  spec_l11Out_k (x.2.1, (y27.1, y27.2.1), y27.2.2.1, y27.2.2.2.1, y27.2.2.2.2, y1h.2) (fun y30 =>
                                    k (y30.1, (2 : Int), y29.1, y29.2.1, y29.2.2.1, y29.2.2.2.1, y29.2.2.2.2.2.2.1, y29.2.2.2.2.2.2.2, y29.2.2.2.2.1, y29.2.2.2.2.2.1, (⟨#[]⟩ : ByteArray), false, (0 : Int), (0 : Int), (0 : Int))))
                              else none))
                        else none)))))

def spec_Finish_k : FN (dEngine × ByteArray × Bool) (dEngine × Int × Int × Int × Int × Int × Bool × ByteArray × ByteArray × Bool × Int × Int × Int) := fn fun x k =>
  spec_l11Copy_k x.1 (fun y1 =>
    let y1h := y1.2.2.2.2
    spec_ReadyAt_k (x.1.1, x.2.1) (fun y2 =>
      bif (decide (y2 < (0 : Int))) then
        k (((y1.2.2.1, (y1.2.2.2.1, (y1h.1, (y1.1, y1.2.1)))), y1h.2), (0 : Int), (0 : Int), (0 : Int), (0 : Int), (0 : Int), false, (⟨#[]⟩ : ByteArray), (⟨#[]⟩ : ByteArray), false, (0 : Int), (0 : Int), (1 : Int))
      else
        bif x.2.2 then
          spec_l11Full_k x.1.1 (fun y3 =>
            bif y3 then
              k (((y1.2.2.1, (y1.2.2.2.1, (y1h.1, (y1.1, y1.2.1)))), y1h.2), (0 : Int), (0 : Int), (0 : Int), (0 : Int), (0 : Int), false, (⟨#[]⟩ : ByteArray), (⟨#[]⟩ : ByteArray), false, (0 : Int), (0 : Int), (3 : Int))
            else
              bif x.2.2 then
                if 0 ≤ y2 ∧ y2 < (x.1.1.2.2.1.length : Int) then
                  spec_Through_k (x.1.1, (rd zTxn x.1.1.2.2.1 y2)) (fun y4 =>
                    spec_Tidied_k ((y4.2.2.1, (y4.2.2.2.1, (y4.2.2.2.2, (y4.1, y4.2.1)))), y1h.2) (fun y5 =>
                      k ((y5, y1h.2), (3 : Int), (0 : Int), (0 : Int), (0 : Int), (0 : Int), false, (⟨#[]⟩ : ByteArray), x.2.1, x.2.2, (0 : Int), (0 : Int), (0 : Int))))
                else none
              else
                spec_GivenUp_k (x.1.1, x.2.1) (fun y6 =>
                  spec_Tidied_k (y6, y1h.2) (fun y7 =>
                    k ((y7, y1h.2), (3 : Int), (0 : Int), (0 : Int), (0 : Int), (0 : Int), false, (⟨#[]⟩ : ByteArray), x.2.1, x.2.2, (0 : Int), (0 : Int), (0 : Int)))))
        else
          bif x.2.2 then
            if 0 ≤ y2 ∧ y2 < (x.1.1.2.2.1.length : Int) then
              spec_Through_k (x.1.1, (rd zTxn x.1.1.2.2.1 y2)) (fun y8 =>
                spec_Tidied_k ((y8.2.2.1, (y8.2.2.2.1, (y8.2.2.2.2, (y8.1, y8.2.1)))), y1h.2) (fun y9 =>
                  k ((y9, y1h.2), (3 : Int), (0 : Int), (0 : Int), (0 : Int), (0 : Int), false, (⟨#[]⟩ : ByteArray), x.2.1, x.2.2, (0 : Int), (0 : Int), (0 : Int))))
            else none
          else
            spec_GivenUp_k (x.1.1, x.2.1) (fun y10 =>
              spec_Tidied_k (y10, y1h.2) (fun y11 =>
                k ((y11, y1h.2), (3 : Int), (0 : Int), (0 : Int), (0 : Int), (0 : Int), false, (⟨#[]⟩ : ByteArray), x.2.1, x.2.2, (0 : Int), (0 : Int), (0 : Int))))))

def spec_l12Copy_k : FN dStore dStore := fn fun x k =>
  spec_l11Copy_k x.1 (fun y1 =>
    spec_l03Copy_k x.2 (fun y2 =>
      k (((y1.2.2.1, (y1.2.2.2.1, (y1.2.2.2.2.1, (y1.1, y1.2.1)))), y1.2.2.2.2.2), y2)))

def spec_FixStore_k : FN dStore (dStore × Bool) := fn fun x k =>
  spec_l12Copy_k x (fun y1 =>
    spec_l12Fixed_k x.2 (fun y2 =>
      bif y2.2 then
        k ((y1.1, y2.1), y2.2)
      else
        k (y1, y2.2)))

def spec_Leave_k : FN (dEngine × Int) (dEngine × Int) := fn fun x k =>
  spec_l11Copy_k x.1 (fun y1 =>
    spec_OpenAt_k (x.1, x.2) (fun y2 =>
      bif (decide (y2 < (0 : Int))) then
        k (((y1.2.2.1, (y1.2.2.2.1, (y1.2.2.2.2.1, (y1.1, y1.2.1)))), y1.2.2.2.2.2), (1 : Int))
      else
        spec_l11Out_k (x.2, (y1.1, y1.2.1), y1.2.2.1, y1.2.2.2.1, y1.2.2.2.2.1, y1.2.2.2.2.2) (fun y3 =>
          k (y3.1, (0 : Int)))))

def spec_l12Keep_8fe4_k : FN (dRecord × dStore) (Bool × dStore) := fn fun x k =>
  spec_RecordText_k x.1 (fun y1 =>
    bif (!y1.2) then
      k (false, x.2)
    else
      spec_AppendLog_k (x.2.2, y1.1) (fun y2 =>
        bif (!y2.2) then
          spec_l12Fixed_k x.2.2 (fun y3 =>
            bif (!y3.2) then
              k (false, x.2)
            else
              spec_AppendLog_k (y3.1, y1.1) (fun y4 =>
                bif y4.2 then
                  k (y4.2, (x.2.1, y4.1))
                else
                  k (y4.2, x.2)))
        else
          bif y2.2 then
            k (y2.2, (x.2.1, y2.1))
          else
            k (y2.2, x.2)))

def spec_l12Commit_09c6_k : FN (Int × dStore) (Int × dStore) := fn fun x k =>
  spec_Commit_k (x.2.1, x.1) (fun y1 =>
    let y1h := y1.2.2.2.2
    let y1i := y1h.2.2.2.2
    let y1j := y1i.2.2.2.2
    bif (y1j.2.2 == (0 : Int)) then
      spec_l12Keep_8fe4_k ((y1.2.1, ((y1.2.2.1, (y1.2.2.2.1, (y1h.1, (y1h.2.1, (y1h.2.2.1, (y1h.2.2.2.1, (y1i.1, y1i.2.1))))))), (y1i.2.2.1, (y1i.2.2.2.1, (([] : List dVersion), (([] : List dTxn), (([] : List dTxn), (y1j.1, y1j.2.1)))))))), x.2) (fun y2 =>
        bif (!y2.1) then
          spec_l11Copy_k y2.2.1 (fun y3 =>
            spec_l11Out_k (x.1, (y3.1, y3.2.1), y3.2.2.1, y3.2.2.2.1, y3.2.2.2.2.1, y3.2.2.2.2.2) (fun y4 =>
              k ((3 : Int), (y4.1, y2.2.2))))
        else
          k (y1j.2.2, (y1.1, y2.2.2)))
    else
      k (y1j.2.2, (y1.1, x.2.2)))

def spec_l12Prepare_55a9_k : FN (Int × ByteArray × dStore) (Int × dStore) := fn fun x k =>
  spec_Prepare_k (x.2.2.1, x.1, x.2.1) (fun y1 =>
    let y1h := y1.2.2.2.2
    let y1i := y1h.2.2.2.2
    let y1j := y1i.2.2.2.2
    bif (y1j.2.2 == (0 : Int)) then
      spec_l12Keep_8fe4_k ((y1.2.1, ((y1.2.2.1, (y1.2.2.2.1, (y1h.1, (y1h.2.1, (y1h.2.2.1, (y1h.2.2.2.1, (y1i.1, y1i.2.1))))))), (y1i.2.2.1, (y1i.2.2.2.1, (([] : List dVersion), (([] : List dTxn), (([] : List dTxn), (y1j.1, y1j.2.1)))))))), x.2.2) (fun y2 =>
        bif (!y2.1) then
          spec_l11Copy_k y2.2.1 (fun y3 =>
            spec_l11Out_k (x.1, (y3.1, y3.2.1), y3.2.2.1, y3.2.2.2.1, y3.2.2.2.2.1, y3.2.2.2.2.2) (fun y4 =>
              k ((3 : Int), (y4.1, y2.2.2))))
        else
          k (y1j.2.2, (y1.1, y2.2.2)))
    else
      k (y1j.2.2, (y1.1, x.2.2.2)))

def spec_l12Finish_e5f1_k : FN (ByteArray × Bool × dStore) (Int × dStore) := fn fun x k =>
  spec_Finish_k (x.2.2.1, x.1, x.2.1) (fun y1 =>
    let y1h := y1.2.2.2.2
    let y1i := y1h.2.2.2.2
    bif (y1i.2.2.2.2 == (0 : Int)) then
      spec_l12Keep_8fe4_k ((y1.2.1, ((y1.2.2.1, (y1.2.2.2.1, (y1h.1, (y1h.2.1, (([] : List dRange), (([] : List dWrite), (y1h.2.2.1, y1h.2.2.2.1))))))), (y1i.1, (y1i.2.1, (([] : List dVersion), (([] : List dTxn), (([] : List dTxn), (y1i.2.2.1, y1i.2.2.2.1)))))))), x.2.2) (fun y2 =>
        bif (!y2.1) then
          k ((3 : Int), y2.2)
        else
          k (y1i.2.2.2.2, (y1.1, y2.2.2)))
    else
      k (y1i.2.2.2.2, (y1.1, x.2.2.2)))

def spec_l12Step_2647_k : FN (((List Int) × (Int × Int)) × dStore) (((List Int) × (Int × Int)) × dStore) := fn fun x k =>
  bif (decide ((x.2.1.2.length : Int) > (0 : Int))) then
    spec_l01Below_k ((x.2.1.2.length : Int), x.1) (fun y1 =>
      if 0 ≤ y1.1 ∧ y1.1 < (x.2.1.2.length : Int) then
        spec_l01Below_k ((16 : Int), y1.2) (fun y2 =>
          bif ((rd zTxn x.2.1.2 y1.1).1 == (0 : Int)) then
            spec_Begin_k x.2.1 (fun y3 =>
              k (y2.2, (y3.1, x.2.2)))
          else
            bif (decide (y2.1 < (3 : Int))) then
              spec_Begin_k x.2.1 (fun y4 =>
                k (y2.2, (y4.1, x.2.2)))
            else
              bif (decide (y2.1 < (6 : Int))) then
                spec_l05Key_k y2.2 (fun y5 =>
                  spec_GetKey_k (x.2.1, (rd zTxn x.2.1.2 y1.1).1, y5.1) (fun y6 =>
                    k (y5.2, (y6.1, x.2.2))))
              else
                bif (decide (y2.1 < (7 : Int))) then
                  spec_l05Range_k y2.2 (fun y7 =>
                    spec_ScanKeys_k (x.2.1, (rd zTxn x.2.1.2 y1.1).1, y7.1) (fun y8 =>
                      k (y7.2, (y8.1, x.2.2))))
                else
                  bif (decide (y2.1 < (10 : Int))) then
                    spec_l05Write_k y2.2 (fun y9 =>
                      spec_PutKey_k (x.2.1, (rd zTxn x.2.1.2 y1.1).1, y9.1) (fun y10 =>
                        k (y9.2, (y10.1, x.2.2))))
                  else
                    bif (decide (y2.1 < (13 : Int))) then
                      spec_l12Commit_09c6_k ((rd zTxn x.2.1.2 y1.1).1, x.2) (fun y11 =>
                        k (y2.2, y11.2))
                    else
                      bif (y2.1 == (13 : Int)) then
                        spec_l01Pick_k ([(⟨#[112]⟩ : ByteArray), (⟨#[113]⟩ : ByteArray), (⟨#[114]⟩ : ByteArray)], y2.2) (fun y12 =>
                          spec_l12Prepare_55a9_k ((rd zTxn x.2.1.2 y1.1).1, y12.1, x.2) (fun y13 =>
                            k (y12.2, y13.2)))
                      else
                        bif (y2.1 == (14 : Int)) then
                          spec_l01Pick_k ([(⟨#[112]⟩ : ByteArray), (⟨#[113]⟩ : ByteArray), (⟨#[114]⟩ : ByteArray)], y2.2) (fun y14 =>
                            spec_l01Once_k ((2 : Int), y14.2) (fun y15 =>
                              spec_l12Finish_e5f1_k (y14.1, y15.1, x.2) (fun y16 =>
                                k (y15.2, y16.2))))
                        else
                          spec_l01Once_k ((3 : Int), y2.2) (fun y17 =>
                            bif y17.1 then
                              spec_FixStore_k x.2 (fun y18 =>
                                k (y17.2, y18.1))
                            else
                              spec_Leave_k (x.2.1, (rd zTxn x.2.1.2 y1.1).1) (fun y19 =>
                                k (y17.2, (y19.1, x.2.2)))))
      else none)
  else
    spec_l01Below_k ((16 : Int), x.1) (fun y20 =>
      spec_Begin_k x.2.1 (fun y21 =>
        k (y20.2, (y21.1, x.2.2))))

def spec_l12Used_b0 : LB (Int × (Int × Int)) (Int × ((List Int) × (Int × Int)) × dStore) ((Int × ((List Int) × (Int × Int)) × dStore) ⊕ (Int × ((List Int) × (Int × Int)) × dStore)) := lb fun u x k =>
    spec_l01Below_k (u.1, x.2.1) (fun y3 =>
      bif (decide (x.1 < (W ((2 : Int) + y3.1)))) then
        spec_l12Step_2647_k (y3.2, x.2.2) (fun y4 =>
          k (.inl ((W (x.1 + (1 : Int))), y4.1, y4.2)))
      else
        k (.inr (x.1, y3.2, x.2.2)))

def spec_l12Used_k : FN (Int × ((List Int) × (Int × Int))) (dStore × ((List Int) × (Int × Int))) := fn fun x k =>
  spec_StoreNew_k () (fun y1 =>
    lpK spec_l12Used_b0 (x.1, ((0 : Int), (0 : Int))) ((0 : Int), x.2, (((([] : List dVersion), (([] : List dTxn), (([] : List dTxn), (y1.1, y1.2.1)))), ([] : List dTxn)), (y1.2.2, ([] : List dPut)))) (fun z2 =>
      k (z2.2.2, z2.2.1)))

def spec_l09Base_k : FN ((List Int) × (Int × Int)) (dBase × ((List Int) × (Int × Int))) := fn fun x k =>
  spec_l12Used_k ((24 : Int), x) (fun y1 =>
    k (y1.1.1.1, y1.2))

def spec_l07Txn_k : FN ((List Int) × (Int × Int)) (dTxn × ((List Int) × (Int × Int))) := fn fun x k =>
  spec_l01Below_k ((6 : Int), x) (fun y1 =>
    spec_l01Below_k ((3 : Int), y1.2) (fun y2 =>
      spec_l01Below_k ((6 : Int), y2.2) (fun y3 =>
        spec_l05Ranges_k y3.2 (fun y4 =>
          spec_l05Writes_k y4.1 (fun y5 =>
            bif ((W ((1 : Int) + y2.1)) == (2 : Int)) then
              spec_l05Key_k y5.2 (fun y6 =>
                spec_l01Once_k ((2 : Int), y6.2) (fun y7 =>
                  k (((W ((1 : Int) + y1.1)), ((W ((1 : Int) + y2.1)), (y3.1, ((0 : Int), (y4.2, (y5.1, (y7.1, y6.1))))))), y7.2)))
            else
              bif ((W ((1 : Int) + y2.1)) == (3 : Int)) then
                spec_l01Below_k ((4 : Int), y5.2) (fun y8 =>
                  spec_l01Once_k ((2 : Int), y8.2) (fun y9 =>
                    k (((W ((1 : Int) + y1.1)), ((W ((1 : Int) + y2.1)), (y3.1, ((W ((W (y3.1 + (1 : Int))) + y8.1)), (y4.2, (y5.1, (y9.1, (⟨#[]⟩ : ByteArray)))))))), y9.2)))
              else
                k (((W ((1 : Int) + y1.1)), ((W ((1 : Int) + y2.1)), (y3.1, ((0 : Int), (y4.2, (y5.1, (false, (⟨#[]⟩ : ByteArray)))))))), y5.2))))))

def spec_l05Any_k : FN ((List Int) × (Int × Int)) (dWrite × ((List Int) × (Int × Int))) := fn fun x k =>
  spec_l05Write_k x (fun y1 =>
    spec_l01Below_k ((8 : Int), y1.2) (fun y2 =>
      bif (y2.1 == (0 : Int)) then
        spec_l01Pick_k ([(⟨#[]⟩ : ByteArray), (⟨#[65]⟩ : ByteArray), (⟨#[97, 98, 99, 100]⟩ : ByteArray), (⟨#[97, 98, 99]⟩ : ByteArray)], y2.2) (fun y3 =>
          k ((y3.1, y1.1.2), y3.2))
      else
        bif (y2.1 == (1 : Int)) then
          spec_l01Below_k ((2 : Int), y2.2) (fun y4 =>
            spec_l01Long_k ((W ((12 : Int) + y4.1)), (97 : Int)) (fun y5 =>
              k ((y1.1.1, (y5, y1.1.2.2)), y4.2)))
        else
          bif (y2.1 == (2 : Int)) then
            k ((y1.1.1, (y1.1.2.1, true)), y2.2)
          else
            k (y1.1, y2.2)))

def spec_l07Any_k : FN ((List Int) × (Int × Int)) (dTxn × ((List Int) × (Int × Int))) := fn fun x k =>
  spec_l01Below_k ((12 : Int), x) (fun y1 =>
    spec_l01Below_k ((60 : Int), y1.2) (fun y2 =>
      spec_l07Txn_k y2.2 (fun y3 =>
        spec_l07Copy_k y3.1 (fun y4 =>
          let y4h := y4.2.2.2.2
          bif (y1.1 == (0 : Int)) then
            if 0 ≤ (y2.1.tmod (3 : Int)) ∧ (y2.1.tmod (3 : Int)) < ([(0 : Int), (9999 : Int), (10000 : Int)].length : Int) then
              k ((([(0 : Int), (9999 : Int), (10000 : Int)].getD (y2.1.tmod (3 : Int)).toNat (0 : Int)), (y4.2.1, (y4.2.2.1, (y4.2.2.2.1, (y4h.2.2.1, (y4h.2.2.2, (y4h.1, y4h.2.1))))))), y3.2)
            else none
          else
            bif (y1.1 == (1 : Int)) then
              k ((y4.1, ((y2.1.tmod (5 : Int)), (y4.2.2.1, (y4.2.2.2.1, (y4h.2.2.1, (y4h.2.2.2, (y4h.1, y4h.2.1))))))), y3.2)
            else
              bif (y1.1 == (2 : Int)) then
                k ((y4.1, (y4.2.1, (y4.2.2.1, ((y2.1.tmod (4 : Int)), (y4h.2.2.1, (y4h.2.2.2, (y4h.1, y4h.2.1))))))), y3.2)
              else
                bif (y1.1 == (3 : Int)) then
                  if 0 ≤ (y2.1.tmod (3 : Int)) ∧ (y2.1.tmod (3 : Int)) < ([(⟨#[]⟩ : ByteArray), (⟨#[65]⟩ : ByteArray), (⟨#[97, 98]⟩ : ByteArray)].length : Int) then
                    k ((y4.1, (y4.2.1, (y4.2.2.1, (y4.2.2.2.1, (y4h.2.2.1, (y4h.2.2.2, (y4h.1, ([(⟨#[]⟩ : ByteArray), (⟨#[65]⟩ : ByteArray), (⟨#[97, 98]⟩ : ByteArray)].getD (y2.1.tmod (3 : Int)).toNat zStr)))))))), y3.2)
                  else none
                else
                  bif (y1.1 == (4 : Int)) then
                    if y4h.2.2.1.length + [((⟨#[98]⟩ : ByteArray), (⟨#[97]⟩ : ByteArray))].length ≤ maxLen then
                      k ((y4.1, (y4.2.1, (y4.2.2.1, (y4.2.2.2.1, ((y4h.2.2.1 ++ [((⟨#[98]⟩ : ByteArray), (⟨#[97]⟩ : ByteArray))]), (y4h.2.2.2, (y4h.1, y4h.2.1))))))), y3.2)
                    else none
                  else
                    bif (y1.1 == (5 : Int)) then
                      spec_l05Any_k y3.2 (fun y5 =>
                        if y4h.2.2.2.length + [y5.1].length ≤ maxLen then
                          k ((y4.1, (y4.2.1, (y4.2.2.1, (y4.2.2.2.1, (y4h.2.2.1, ((y4h.2.2.2 ++ [y5.1]), (y4h.1, y4h.2.1))))))), y5.2)
                        else none)
                    else
                      bif (y1.1 == (6 : Int)) then
                        k ((y4.1, (y4.2.1, (y4.2.2.1, (y4.2.2.2.1, (y4h.2.2.1, (y4h.2.2.2, (true, y4h.2.1))))))), y3.2)
                      else
                        k ((y4.1, (y4.2.1, (y4.2.2.1, (y4.2.2.2.1, (y4h.2.2.1, (y4h.2.2.2, (y4h.1, y4h.2.1))))))), y3.2)))))

def spec_l06Versions_b0 : LB Unit (Int × ((List Int) × (Int × Int)) × (List dVersion)) ((Int × ((List Int) × (Int × Int)) × (List dVersion)) ⊕ (Int × ((List Int) × (Int × Int)) × (List dVersion))) := lb fun _ x k =>
    spec_l01Below_k ((8 : Int), x.2.1) (fun y2 =>
      bif (decide (x.1 < y2.1)) then
        spec_l05Writes_k y2.2 (fun y3 =>
          spec_PutVersions_k (x.2.2, y3.1, (W (x.1 + (1 : Int)))) (fun y4 =>
            k (.inl ((W (x.1 + (1 : Int))), y3.2, y4))))
      else
        k (.inr (x.1, y2.2, x.2.2)))

def spec_l06Versions_k : FN ((List Int) × (Int × Int)) (((List Int) × (Int × Int)) × (List dVersion)) := fn fun x k =>
  lpK spec_l06Versions_b0 () ((0 : Int), x, ([] : List dVersion)) (fun z1 =>
    k (z1.2.1, z1.2.2))

def spec_l06Any_k : FN ((List Int) × (Int × Int)) (((List Int) × (Int × Int)) × (List dVersion)) := fn fun x k =>
  spec_l01Below_k ((10 : Int), x) (fun y1 =>
    spec_l01Below_k ((60 : Int), y1.2) (fun y2 =>
      spec_l06Versions_k y2.2 (fun y3 =>
        if ([] : List dVersion).length + y3.2.length ≤ maxLen then
          bif (decide (((([] : List dVersion) ++ y3.2).length : Int) > (0 : Int))) then
            if ((([] : List dVersion) ++ y3.2).length : Int) = 0 then none else
              bif (y1.1 == (0 : Int)) then
                if 0 ≤ (y2.1.tmod (4 : Int)) ∧ (y2.1.tmod (4 : Int)) < ([(0 : Int), (9999 : Int), (10000 : Int), (3 : Int)].length : Int) then
                  if 0 ≤ (y2.1.tmod ((([] : List dVersion) ++ y3.2).length : Int)) ∧ (y2.1.tmod ((([] : List dVersion) ++ y3.2).length : Int)) < ((([] : List dVersion) ++ y3.2).length : Int) then
                    k (y3.1, ((([] : List dVersion) ++ y3.2).set (y2.1.tmod ((([] : List dVersion) ++ y3.2).length : Int)).toNat (((([] : List dVersion) ++ y3.2).getD (y2.1.tmod ((([] : List dVersion) ++ y3.2).length : Int)).toNat zVersion).1, (((([] : List dVersion) ++ y3.2).getD (y2.1.tmod ((([] : List dVersion) ++ y3.2).length : Int)).toNat zVersion).2.1, (((([] : List dVersion) ++ y3.2).getD (y2.1.tmod ((([] : List dVersion) ++ y3.2).length : Int)).toNat zVersion).2.2.1, ([(0 : Int), (9999 : Int), (10000 : Int), (3 : Int)].getD (y2.1.tmod (4 : Int)).toNat (0 : Int)))))))
                  else none
                else none
              else
                bif (y1.1 == (1 : Int)) then
                  if 0 ≤ (y2.1.tmod (3 : Int)) ∧ (y2.1.tmod (3 : Int)) < ([(⟨#[]⟩ : ByteArray), (⟨#[65]⟩ : ByteArray), (⟨#[122]⟩ : ByteArray)].length : Int) then
                    if 0 ≤ (y2.1.tmod ((([] : List dVersion) ++ y3.2).length : Int)) ∧ (y2.1.tmod ((([] : List dVersion) ++ y3.2).length : Int)) < ((([] : List dVersion) ++ y3.2).length : Int) then
                      k (y3.1, ((([] : List dVersion) ++ y3.2).set (y2.1.tmod ((([] : List dVersion) ++ y3.2).length : Int)).toNat (([(⟨#[]⟩ : ByteArray), (⟨#[65]⟩ : ByteArray), (⟨#[122]⟩ : ByteArray)].getD (y2.1.tmod (3 : Int)).toNat zStr), ((([] : List dVersion) ++ y3.2).getD (y2.1.tmod ((([] : List dVersion) ++ y3.2).length : Int)).toNat zVersion).2)))
                    else none
                  else none
                else
                  bif (y1.1 == (2 : Int)) then
                    if 0 ≤ (y2.1.tmod ((([] : List dVersion) ++ y3.2).length : Int)) ∧ (y2.1.tmod ((([] : List dVersion) ++ y3.2).length : Int)) < ((([] : List dVersion) ++ y3.2).length : Int) then
                      k (y3.1, ((([] : List dVersion) ++ y3.2).set (y2.1.tmod ((([] : List dVersion) ++ y3.2).length : Int)).toNat (((([] : List dVersion) ++ y3.2).getD (y2.1.tmod ((([] : List dVersion) ++ y3.2).length : Int)).toNat zVersion).1, (((([] : List dVersion) ++ y3.2).getD (y2.1.tmod ((([] : List dVersion) ++ y3.2).length : Int)).toNat zVersion).2.1, (true, ((([] : List dVersion) ++ y3.2).getD (y2.1.tmod ((([] : List dVersion) ++ y3.2).length : Int)).toNat zVersion).2.2.2)))))
                    else none
                  else
                    bif (y1.1 == (3 : Int)) then
                      spec_l01Long_k ((13 : Int), (97 : Int)) (fun y4 =>
                        if 0 ≤ (y2.1.tmod ((([] : List dVersion) ++ y3.2).length : Int)) ∧ (y2.1.tmod ((([] : List dVersion) ++ y3.2).length : Int)) < ((([] : List dVersion) ++ y3.2).length : Int) then
                          k (y3.1, ((([] : List dVersion) ++ y3.2).set (y2.1.tmod ((([] : List dVersion) ++ y3.2).length : Int)).toNat (((([] : List dVersion) ++ y3.2).getD (y2.1.tmod ((([] : List dVersion) ++ y3.2).length : Int)).toNat zVersion).1, (y4, ((([] : List dVersion) ++ y3.2).getD (y2.1.tmod ((([] : List dVersion) ++ y3.2).length : Int)).toNat zVersion).2.2))))
                        else none)
                    else
                      k (y3.1, (([] : List dVersion) ++ y3.2))
          else
            k (y3.1, (([] : List dVersion) ++ y3.2))
        else none)))

def spec_l09Any_k : FN ((List Int) × (Int × Int)) (dBase × ((List Int) × (Int × Int))) := fn fun x k =>
  spec_l01Below_k ((14 : Int), x) (fun y1 =>
    spec_l01Below_k ((60 : Int), y1.2) (fun y2 =>
      spec_l09Base_k y2.2 (fun y3 =>
        spec_l09Copy_k y3.1 (fun y4 =>
          let y4h := y4.2.2.2.2
          bif (y1.1 == (0 : Int)) then
            if 0 ≤ (y2.1.tmod (4 : Int)) ∧ (y2.1.tmod (4 : Int)) < ([(0 : Int), (1 : Int), (9999 : Int), (10000 : Int)].length : Int) then
              k ((y4.2.2.1, (y4.2.2.2.1, (y4h, (([(0 : Int), (1 : Int), (9999 : Int), (10000 : Int)].getD (y2.1.tmod (4 : Int)).toNat (0 : Int)), y4.2.1)))), y3.2)
            else none
          else
            bif (y1.1 == (1 : Int)) then
              k ((y4.2.2.1, (y4.2.2.2.1, (y4h, (y4.1, (y2.1.tmod (4 : Int)))))), y3.2)
            else
              bif (y1.1 == (2 : Int)) then
                spec_l07Any_k y3.2 (fun y5 =>
                  if y4.2.2.2.1.length + [y5.1].length ≤ maxLen then
                    k ((y4.2.2.1, ((y4.2.2.2.1 ++ [y5.1]), (y4h, (y4.1, y4.2.1)))), y5.2)
                  else none)
              else
                bif (y1.1 == (3 : Int)) then
                  spec_l07Any_k y3.2 (fun y6 =>
                    if y4h.length + [y6.1].length ≤ maxLen then
                      k ((y4.2.2.1, (y4.2.2.2.1, ((y4h ++ [y6.1]), (y4.1, y4.2.1)))), y6.2)
                    else none)
                else
                  bif (y1.1 == (4 : Int)) then
                    spec_l06Any_k y3.2 (fun y7 =>
                      k ((y7.2, (y4.2.2.2.1, (y4h, (y4.1, y4.2.1)))), y7.1))
                  else
                    k ((y4.2.2.1, (y4.2.2.2.1, (y4h, (y4.1, y4.2.1)))), y3.2)))))

def spec_l09Pair_j15000008 : LB (Bool × (Int × Int) × (Bool × ByteArray) × dBase) dTxn dTxn := lb fun u x k =>
    bif u.1 then
      if 0 ≤ (0 : Int) ∧ (0 : Int) < (u.2.2.2.2.2.1.length : Int) then
        k (rd zTxn u.2.2.2.2.2.1 (0 : Int))
      else none
    else
      k x

def spec_l09Pair_k : FN (List Int) (dBase × dTxn) := fn fun x k =>
  spec_l01New_k x (fun y1 =>
    spec_l01Below_k ((4 : Int), y1) (fun y2 =>
      spec_l05Ranges_k y2.2 (fun y3 =>
        spec_l05Writes_k y3.1 (fun y4 =>
          spec_l09Any_k y4.2 (fun y5 =>
            spec_l01Below_k ((W ((y5.1.2.2.2.1.tmod (9 : Int)) + (2 : Int))), y5.2) (fun y6 =>
              bif (y2.1 == (0 : Int)) then
                spec_l09Pair_j15000008 ((decide ((y5.1.2.2.1.length : Int) > (0 : Int))), ((0 : Int), (0 : Int)), (false, (⟨#[]⟩ : ByteArray)), y5.1) (y5.1.2.2.2.2, ((1 : Int), (y6.1, ((0 : Int), (y3.2, (y4.1, (false, (⟨#[]⟩ : ByteArray)))))))) (fun z7 =>
                  k (y5.1, z7))
              else
                spec_l09Pair_j15000008 (false, ((0 : Int), (0 : Int)), (false, (⟨#[]⟩ : ByteArray)), y5.1) (y5.1.2.2.2.2, ((1 : Int), (y6.1, ((0 : Int), (y3.2, (y4.1, (false, (⟨#[]⟩ : ByteArray)))))))) (fun z8 =>
                  k (y5.1, z8))))))))

def spec_DrawThrough_k : FN (List Int) (dBase × dTxn) := fn fun x k =>
  spec_l09Pair_k x (fun y1 =>
    k (y1.1, y1.2))

def impl_copyTxn_k : FN dTxn (Int × Int × Int × Int × Bool × ByteArray × (List dRange) × (List dWrite)) := fn fun x k =>
  let xh := x.2.2.2.2
  if xh.1.length ≤ maxLen then
    if xh.2.1.length ≤ maxLen then
      k (x.1, x.2.1, x.2.2.1, x.2.2.2.1, xh.2.2.1, xh.2.2.2, xh.1, xh.2.1)
    else none
  else none

def impl_copyTxns_b0 : LB ((List dTxn) × Int) (Int × (List dTxn)) ((Int × (List dTxn)) ⊕ (Int × (List dTxn))) := lb fun u x k =>
    bif (decide (x.1 < u.2)) then
      if 0 ≤ x.1 ∧ x.1 < (u.1.length : Int) then
        impl_copyTxn_k (rd zTxn u.1 x.1) (fun y2 =>
          let y2h := y2.2.2.2.2
          if x.2.length + [(y2.1, (y2.2.1, (y2.2.2.1, (y2.2.2.2.1, (y2h.2.2.1, (y2h.2.2.2, (y2h.1, y2h.2.1)))))))].length ≤ maxLen then
            k (.inl ((W (x.1 + (1 : Int))), (x.2 ++ [(y2.1, (y2.2.1, (y2.2.2.1, (y2.2.2.2.1, (y2h.2.2.1, (y2h.2.2.2, (y2h.1, y2h.2.1)))))))])))
          else none)
      else none
    else
      k (.inr (x.1, x.2))

def impl_copyTxns_k : FN (List dTxn) (List dTxn) := fn fun x k =>
  lpK impl_copyTxns_b0 (x, (x.length : Int)) ((0 : Int), ([] : List dTxn)) (fun z1 =>
    k z1.2)

def impl_copyBase_k : FN dBase (Int × Int × (List dVersion) × (List dTxn) × (List dTxn)) := fn fun x k =>
  if x.1.length ≤ maxLen then
    impl_copyTxns_k x.2.1 (fun y1 =>
      impl_copyTxns_k x.2.2.1 (fun y2 =>
        k (x.2.2.2.1, x.2.2.2.2, x.1, y1, y2)))
  else none

def cmp_isNaN_string_k : FN ByteArray Bool := fn fun x k =>
  k (!(strEq x x))

def cmp_Compare_string_k : FN (ByteArray × ByteArray) Int := fn fun x k =>
  cmp_isNaN_string_k x.1 (fun y1 =>
    cmp_isNaN_string_k x.2 (fun y2 =>
      bif y1 then
        bif y2 then
          k (0 : Int)
        else
          k (-1 : Int)
      else
        bif y2 then
          k (1 : Int)
        else
          bif (strLess x.1 x.2) then
            k (-1 : Int)
          else
            bif (!((strLess x.1 x.2) || (strEq x.1 x.2))) then
              k (1 : Int)
            else
              k (0 : Int)))

def cmp_isNaN_int_k : FN Int Bool := fn fun x k =>
  k (x != x)

def cmp_Compare_int_k : FN (Int × Int) Int := fn fun x k =>
  cmp_isNaN_int_k x.1 (fun y1 =>
    cmp_isNaN_int_k x.2 (fun y2 =>
      bif y1 then
        bif y2 then
          k (0 : Int)
        else
          k (-1 : Int)
      else
        bif y2 then
          k (1 : Int)
        else
          bif (decide (x.1 < x.2)) then
            k (-1 : Int)
          else
            bif (decide (x.1 > x.2)) then
              k (1 : Int)
            else
              k (0 : Int)))

def impl_compareVersion_k : FN (dVersion × dVersion) Int := fn fun x k =>
  cmp_Compare_string_k (x.1.1, x.2.1) (fun y1 =>
    bif (y1 != (0 : Int)) then
      k y1
    else
      cmp_Compare_int_k (x.1.2.2.2, x.2.2.2.2) (fun y2 =>
        k y2))

def impl_PutVersions_1_k : FN (dVersion × dVersion) (Bool × dVersion) := fn fun x k =>
  impl_compareVersion_k (x.1, x.2) (fun y1 =>
    k ((decide (y1 > (0 : Int))), x.2))

def slices_IndexFunc_Version_PutVersions_1_b0 : LB ((List dVersion) × Int) (Int × dVersion) ((Int × dVersion) ⊕ ((Int × Int × dVersion) ⊕ (Int × dVersion))) := lb fun u x k =>
    bif (decide (x.1 < u.2)) then
      if 0 ≤ x.1 ∧ x.1 < (u.1.length : Int) then
        impl_PutVersions_1_k ((rd zVersion u.1 x.1), x.2) (fun y3 =>
          bif y3.1 then
            k (.inr (.inl (x.1, x.1, y3.2)))
          else
            k (.inl ((W (x.1 + (1 : Int))), y3.2)))
      else none
    else
      k (.inr (.inr (x.1, x.2)))

def slices_IndexFunc_Version_PutVersions_1_k : FN ((List dVersion) × dVersion) (Int × dVersion) := fn fun x k =>
  lpK slices_IndexFunc_Version_PutVersions_1_b0 (x.1, (x.1.length : Int)) ((0 : Int), x.2) (Sum.elim (fun z1 =>
    k (z1.1, z1.2.2)) (fun z2 =>
    k ((-1 : Int), z2.2)))

def slices_Insert_Version_voo_k : FN (Int × (List dVersion) × (List dVersion)) ((List dVersion) × (List dVersion)) := fn fun x k =>
  if 0 ≤ x.1 ∧ x.1 ≤ (x.2.1.length : Int) ∧ 0 < x.2.2.length ∧ x.2.1.length + x.2.2.length ≤ 1073741824 then
    k (x.2.2, (insL x.2.1 x.1 x.2.2))
  else none

def impl_PutVersions_b0 : LB (Int × (List dWrite) × Int) (Int × (List dVersion)) ((Int × (List dVersion)) ⊕ (Int × (List dVersion))) := lb fun u x k =>
    bif (decide (x.1 < u.2.2)) then
      if 0 ≤ x.1 ∧ x.1 < (u.2.1.length : Int) then
        slices_IndexFunc_Version_PutVersions_1_k (x.2, ((rd zWrite u.2.1 x.1).1, ((rd zWrite u.2.1 x.1).2.1, ((rd zWrite u.2.1 x.1).2.2, u.1)))) (fun y2 =>
          bif (decide (y2.1 < (0 : Int))) then
            slices_Insert_Version_voo_k ((x.2.length : Int), x.2, [y2.2]) (fun y3 =>
              k (.inl ((W (x.1 + (1 : Int))), y3.2)))
          else
            slices_Insert_Version_voo_k (y2.1, x.2, [y2.2]) (fun y4 =>
              k (.inl ((W (x.1 + (1 : Int))), y4.2))))
      else none
    else
      k (.inr (x.1, x.2))

def impl_PutVersions_k : FN ((List dVersion) × (List dWrite) × Int) (List dVersion) := fn fun x k =>
  if x.1.length ≤ maxLen then
    lpK impl_PutVersions_b0 (x.2.2, x.2.1, (x.2.1.length : Int)) ((0 : Int), x.1) (fun z1 =>
      k z1.2)
  else none

def impl_isDone_k : FN dTxn Bool := fn fun x k =>
  k (x.2.1 == (3 : Int))

def impl_Beside_1_k : FN (dTxn × dTxn) Bool := fn fun x k =>
  bif (x.1.2.1 == (3 : Int)) then
    k (decide (x.1.2.2.2.1 ≤ x.2.2.2.1))
  else
    k false

def impl_Beside_k : FN (dTxn × dTxn) Bool := fn fun x k =>
  bif (x.1.1 != x.2.1) then
    impl_Beside_1_k (x.1, x.2) (fun y1 =>
      bif (!y1) then
        impl_Beside_1_k (x.2, x.1) (fun y2 =>
          k (!y2))
      else
        k false)
  else
    k false

def impl_InRange_k : FN (dRange × ByteArray) Bool := fn fun x k =>
  bif (!(strLess x.2 x.1.1)) then
    k ((strLess x.2 x.1.2) || (strEq x.2 x.1.2))
  else
    k false

def impl_Touches_b2 : LB ((List dWrite) × (List dRange) × Int × Int × (List dWrite) × Int × dRange) Int (Int ⊕ (Int ⊕ Int)) := lb fun u x k =>
    bif (decide (x < u.2.2.2.2.2.1)) then
      if 0 ≤ x ∧ x < (u.2.2.2.2.1.length : Int) then
        impl_InRange_k (u.2.2.2.2.2.2, (rd zWrite u.2.2.2.2.1 x).1) (fun y5 =>
          bif y5 then
            k (.inr (.inl x))
          else
            k (.inl (W (x + (1 : Int)))))
      else none
    else
      k (.inr (.inr x))

def impl_Touches_b0 : LB ((List dWrite) × (List dRange) × Int) Int (Int ⊕ (Int ⊕ Int)) := lb fun u x k =>
    bif (decide (x < u.2.2)) then
      if 0 ≤ x ∧ x < (u.2.1.length : Int) then
        lpK impl_Touches_b2 (u.1, u.2.1, u.2.2, x, u.1, (u.1.length : Int), (rd zRange u.2.1 x)) (0 : Int) (Sum.elim (fun _ =>
          k (.inr (.inr x))) (fun _ =>
          k (.inl (W (x + (1 : Int))))))
      else none
    else
      k (.inr (.inl x))

def impl_Touches_k : FN ((List dRange) × (List dWrite)) Bool := fn fun x k =>
  lpK impl_Touches_b0 (x.2, x.1, (x.1.length : Int)) (0 : Int) (Sum.elim (fun _ =>
    k false) (fun _ =>
    k true))

def impl_Ahead_k : FN (dTxn × dTxn) Bool := fn fun x k =>
  impl_Beside_k (x.1, x.2) (fun y1 =>
    bif y1 then
      impl_Touches_k (x.1.2.2.2.2.1, x.2.2.2.2.2.2.1) (fun y2 =>
        k y2)
    else
      k false)

def impl_OutOf_1_k : FN (dTxn × dTxn) (Bool × dTxn) := fn fun x k =>
  impl_isDone_k x.1 (fun y1 =>
    bif y1 then
      impl_Ahead_k (x.2, x.1) (fun y2 =>
        k (y2, x.2))
    else
      k (false, x.2))

def slices_IndexFunc_Txn_OutOf_1_b0 : LB ((List dTxn) × Int) (Int × dTxn) ((Int × dTxn) ⊕ ((Int × Int × dTxn) ⊕ (Int × dTxn))) := lb fun u x k =>
    bif (decide (x.1 < u.2)) then
      if 0 ≤ x.1 ∧ x.1 < (u.1.length : Int) then
        impl_OutOf_1_k ((rd zTxn u.1 x.1), x.2) (fun y3 =>
          bif y3.1 then
            k (.inr (.inl (x.1, x.1, y3.2)))
          else
            k (.inl ((W (x.1 + (1 : Int))), y3.2)))
      else none
    else
      k (.inr (.inr (x.1, x.2)))

def slices_IndexFunc_Txn_OutOf_1_k : FN ((List dTxn) × dTxn) (Int × dTxn) := fn fun x k =>
  lpK slices_IndexFunc_Txn_OutOf_1_b0 (x.1, (x.1.length : Int)) ((0 : Int), x.2) (Sum.elim (fun z1 =>
    k (z1.1, z1.2.2)) (fun z2 =>
    k ((-1 : Int), z2.2)))

def slices_ContainsFunc_Txn_OutOf_1_k : FN ((List dTxn) × dTxn) (Bool × dTxn) := fn fun x k =>
  slices_IndexFunc_Txn_OutOf_1_k (x.1, x.2) (fun y1 =>
    k ((decide (y1.1 ≥ (0 : Int))), y1.2))

def impl_some_OutOf_1_k : FN ((List dTxn) × dTxn) (Bool × dTxn) := fn fun x k =>
  slices_ContainsFunc_Txn_OutOf_1_k (x.1, x.2) (fun y1 =>
    k (y1.1, y1.2))

def impl_OutOf_k : FN (dTxn × (List dTxn)) Bool := fn fun x k =>
  impl_some_OutOf_1_k (x.2, x.1) (fun y1 =>
    k y1.1)

def impl_Through_1_k : FN (dTxn × Int × Int × Int × Int × (Bool × ByteArray)) (Bool × Int × Int × Int × Int × (Bool × ByteArray)) := fn fun x k =>
  k ((x.1.1 == x.2.1), x.2.1, x.2.2.1, x.2.2.2.1, x.2.2.2.2.1, x.2.2.2.2.2)

def slices_IndexFunc_Txn_Through_1_b0 : LB ((List dTxn) × Int) (Int × Int × Int × Int × Int × (Bool × ByteArray)) ((Int × Int × Int × Int × Int × (Bool × ByteArray)) ⊕ ((Int × Int × Int × Int × Int × Int × (Bool × ByteArray)) ⊕ (Int × Int × Int × Int × Int × (Bool × ByteArray)))) := lb fun u x k =>
    bif (decide (x.1 < u.2)) then
      if 0 ≤ x.1 ∧ x.1 < (u.1.length : Int) then
        impl_Through_1_k ((rd zTxn u.1 x.1), x.2.1, x.2.2.1, x.2.2.2.1, x.2.2.2.2.1, x.2.2.2.2.2) (fun y3 =>
          bif y3.1 then
            k (.inr (.inl (x.1, x.1, y3.2.1, y3.2.2.1, y3.2.2.2.1, y3.2.2.2.2.1, y3.2.2.2.2.2)))
          else
            k (.inl ((W (x.1 + (1 : Int))), y3.2.1, y3.2.2.1, y3.2.2.2.1, y3.2.2.2.2.1, y3.2.2.2.2.2)))
      else none
    else
      k (.inr (.inr (x.1, x.2.1, x.2.2.1, x.2.2.2.1, x.2.2.2.2.1, x.2.2.2.2.2)))

def slices_IndexFunc_Txn_Through_1_k : FN ((List dTxn) × Int × Int × Int × Int × (Bool × ByteArray)) (Int × Int × Int × Int × Int × (Bool × ByteArray)) := fn fun x k =>
  lpK slices_IndexFunc_Txn_Through_1_b0 (x.1, (x.1.length : Int)) ((0 : Int), x.2.1, x.2.2.1, x.2.2.2.1, x.2.2.2.2.1, x.2.2.2.2.2) (Sum.elim (fun z1 =>
    k (z1.1, z1.2.2.1, z1.2.2.2.1, z1.2.2.2.2.1, z1.2.2.2.2.2.1, z1.2.2.2.2.2.2)) (fun z2 =>
    k ((-1 : Int), z2.2.1, z2.2.2.1, z2.2.2.2.1, z2.2.2.2.2.1, z2.2.2.2.2.2)))

def slices_DeleteFunc_Txn_Through_1_vo_b0 : LB Unit (Int × Int × (List dTxn) × Int × Int × Int × Int × (Bool × ByteArray)) ((Int × Int × (List dTxn) × Int × Int × Int × Int × (Bool × ByteArray)) ⊕ (Int × Int × (List dTxn) × Int × Int × Int × Int × (Bool × ByteArray))) := lb fun _ x k =>
    let xh := x.2.2.2.2
    bif (decide (x.2.1 < (x.2.2.1.length : Int))) then
      if 0 ≤ x.2.1 ∧ x.2.1 < (x.2.2.1.length : Int) then
        impl_Through_1_k ((x.2.2.1.getD x.2.1.toNat zTxn), x.2.2.2.1, xh.1, xh.2.1, xh.2.2.1, xh.2.2.2) (fun y3 =>
          bif (!y3.1) then
            if 0 ≤ x.1 ∧ x.1 < (x.2.2.1.length : Int) then
              k (.inl ((W (x.1 + (1 : Int))), (W (x.2.1 + (1 : Int))), (x.2.2.1.set x.1.toNat (x.2.2.1.getD x.2.1.toNat zTxn)), y3.2.1, y3.2.2.1, y3.2.2.2.1, y3.2.2.2.2.1, y3.2.2.2.2.2))
            else none
          else
            k (.inl (x.1, (W (x.2.1 + (1 : Int))), x.2.2.1, y3.2.1, y3.2.2.1, y3.2.2.2.1, y3.2.2.2.2.1, y3.2.2.2.2.2)))
      else none
    else
      k (.inr (x.1, x.2.1, x.2.2.1, x.2.2.2.1, xh.1, xh.2.1, xh.2.2.1, xh.2.2.2))

def slices_DeleteFunc_Txn_Through_1_vo_k : FN ((List dTxn) × Int × Int × Int × Int × (Bool × ByteArray)) (((List dTxn) × Int × Int × Int × Int × (Bool × ByteArray)) ⊕ (Int × Int × Int × Int × (Bool × ByteArray) × (List dTxn))) := fn fun x k =>
  slices_IndexFunc_Txn_Through_1_k (x.1, x.2.1, x.2.2.1, x.2.2.2.1, x.2.2.2.2.1, x.2.2.2.2.2) (fun y1 =>
    bif (y1.1 == (-1 : Int)) then
      k (.inl (x.1, y1.2.1, y1.2.2.1, y1.2.2.2.1, y1.2.2.2.2.1, y1.2.2.2.2.2))
    else
      lpK slices_DeleteFunc_Txn_Through_1_vo_b0 () (y1.1, (W (y1.1 + (1 : Int))), x.1, y1.2.1, y1.2.2.1, y1.2.2.2.1, y1.2.2.2.2.1, y1.2.2.2.2.2) (fun z2 =>
        if 0 ≤ z2.1 ∧ z2.1 ≤ (z2.2.2.1.length : Int) then
          if 0 ≤ z2.1 ∧ z2.1 ≤ ((z2.2.2.1.take z2.1.toNat ++ List.replicate (z2.2.2.1.length - z2.1.toNat) zTxn).length : Int) then
            k (.inr (z2.2.2.2.1, z2.2.2.2.2.1, z2.2.2.2.2.2.1, z2.2.2.2.2.2.2.1, z2.2.2.2.2.2.2.2, ((z2.2.2.1.take z2.1.toNat ++ List.replicate (z2.2.2.1.length - z2.1.toNat) zTxn).take z2.1.toNat)))
          else none
        else none))

def impl_Through_b0 : LB (Int × Int × Int × Int × Int × (Bool × ByteArray) × (Int × Int) × (Int × Int) × Int × Int × Int × (Bool × ByteArray) × (List dVersion) × (List dTxn) × (List dTxn) × (List dVersion) × (List dTxn) × (List dRange) × (List dWrite)) (Int × (List dTxn)) ((Int × (List dTxn)) ⊕ (Int × (List dTxn))) := lb fun u x k =>
    let uh := u.2.2.2.2
    let ui := uh.2.2.2.2
    let t0 := (x.2.getD x.1.toNat zTxn)
    bif (decide (x.1 < u.1)) then
      if 0 ≤ x.1 ∧ x.1 < (x.2.length : Int) then
        bif t0.2.2.2.2.2.2.1 then
          if 0 ≤ x.1 ∧ x.1 < (x.2.length : Int) then
            k (.inl ((W (x.1 + (1 : Int))), (x.2.set x.1.toNat (t0.1, (t0.2.1, (t0.2.2.1, (t0.2.2.2.1, (t0.2.2.2.2.1, (t0.2.2.2.2.2.1, (true, t0.2.2.2.2.2.2.2))))))))))
          else none
        else
          impl_Ahead_k (t0, (ui.1, ((3 : Int), (ui.2.1, (ui.2.2.1, (ui.2.2.2.2.2.2.2.2.2.1, (ui.2.2.2.2.2.2.2.2.2.2, ui.2.2.2.1))))))) (fun y8 =>
            if 0 ≤ x.1 ∧ x.1 < (x.2.length : Int) then
              k (.inl ((W (x.1 + (1 : Int))), (x.2.set x.1.toNat (t0.1, (t0.2.1, (t0.2.2.1, (t0.2.2.2.1, (t0.2.2.2.2.1, (t0.2.2.2.2.2.1, (y8, t0.2.2.2.2.2.2.2))))))))))
            else none)
      else none
    else
      k (.inr (x.1, x.2))

def impl_Through_j5000007 : LB Unit (Int × Int × Int × Int × (Bool × ByteArray) × (Int × Int) × (Int × Int) × Int × Int × Int × (Bool × ByteArray) × (List dVersion) × (List dTxn) × (List dTxn) × (List dVersion) × (List dTxn) × (List dTxn) × (List dRange) × (List dWrite)) (Int × Int × Int × Int × (Bool × ByteArray) × (Int × Int) × (Int × Int) × dTxn × (List dVersion) × (List dTxn) × (List dTxn)) := lb fun _ x k =>
    let xh := x.2.2.2.2
    let xi := xh.2.2.2.2
    let xj := xi.2.2.2.2
    let xk := xj.2.2.2.2
    let t0 := (xh.2.2.2.1, ((3 : Int), (xi.1, (xi.2.1, (xk.2.1, (xk.2.2, xi.2.2.1))))))
    slices_DeleteFunc_Txn_Through_1_vo_k (xk.1, x.1, x.2.1, x.2.2.1, x.2.2.2.1, xh.1) (Sum.elim (fun y9 =>
      lpK impl_Through_b0 ((y9.1.length : Int), y9.2.1, y9.2.2.1, y9.2.2.2.1, y9.2.2.2.2.1, y9.2.2.2.2.2, xh.2.1, xh.2.2.1, xh.2.2.2.1, xi.1, xi.2.1, xi.2.2.1, xi.2.2.2.1, xj.1, xj.2.1, xj.2.2.1, xj.2.2.2.1, xk.2.1, xk.2.2) ((0 : Int), y9.1) (fun z10 =>
        if xj.2.2.2.1.length + [t0].length ≤ maxLen then
          k (y9.2.1, y9.2.2.1, y9.2.2.2.1, y9.2.2.2.2.1, y9.2.2.2.2.2, (xh.2.2.1.1, (if (W (y9.2.1 + (1 : Int))) > xh.2.2.1.2 then (W (y9.2.1 + (1 : Int))) else xh.2.2.1.2)), (xh.2.2.1.1, (if (W (y9.2.1 + (1 : Int))) > xh.2.2.1.2 then (W (y9.2.1 + (1 : Int))) else xh.2.2.1.2)), t0, xj.2.2.1, (xj.2.2.2.1 ++ [t0]), z10.2)
        else none)) (fun y11 =>
      lpK impl_Through_b0 ((y11.2.2.2.2.2.length : Int), y11.1, y11.2.1, y11.2.2.1, y11.2.2.2.1, y11.2.2.2.2.1, xh.2.1, xh.2.2.1, xh.2.2.2.1, xi.1, xi.2.1, xi.2.2.1, xi.2.2.2.1, xj.1, xj.2.1, xj.2.2.1, xj.2.2.2.1, xk.2.1, xk.2.2) ((0 : Int), y11.2.2.2.2.2) (fun z12 =>
        if xj.2.2.2.1.length + [t0].length ≤ maxLen then
          k (y11.1, y11.2.1, y11.2.2.1, y11.2.2.2.1, y11.2.2.2.2.1, (xh.2.2.1.1, (if (W (y11.1 + (1 : Int))) > xh.2.2.1.2 then (W (y11.1 + (1 : Int))) else xh.2.2.1.2)), (xh.2.2.1.1, (if (W (y11.1 + (1 : Int))) > xh.2.2.1.2 then (W (y11.1 + (1 : Int))) else xh.2.2.1.2)), t0, xj.2.2.1, (xj.2.2.2.1 ++ [t0]), z12.2)
        else none)))

def impl_Through_k : FN (dBase × dTxn) dBase := fn fun x k =>
  let xh := x.2.2.2.2
  impl_copyBase_k x.1 (fun y1 =>
    impl_copyTxn_k x.2 (fun y2 =>
      bif xh.2.2.2.1 then
        impl_PutVersions_k (x.1.1, xh.2.2.1, (W (y1.1 + (1 : Int)))) (fun y3 =>
          impl_Through_j5000007 () (x.2.1, x.2.2.1, x.2.2.2.1, xh.1, xh.2.2.2, ((0 : Int), (0 : Int)), ((W (y1.1 + (1 : Int))), y1.2.1), y2.1, y2.2.2.1, (W (x.1.2.2.2.1 + (1 : Int))), (true, (⟨#[]⟩ : ByteArray)), ([] : List dVersion), ([] : List dTxn), ([] : List dTxn), y3, y1.2.2.2.1, y1.2.2.2.2, y2.2.2.2.2.2.2.1, y2.2.2.2.2.2.2.2) (fun z4 =>
            k (z4.2.2.2.2.2.2.2.2.1, (z4.2.2.2.2.2.2.2.2.2.1, (z4.2.2.2.2.2.2.2.2.2.2, z4.2.2.2.2.2.1)))))
      else
        impl_OutOf_k (x.2, x.1.2.1) (fun y5 =>
          impl_PutVersions_k (x.1.1, xh.2.2.1, (W (y1.1 + (1 : Int)))) (fun y6 =>
            impl_Through_j5000007 () (x.2.1, x.2.2.1, x.2.2.2.1, xh.1, xh.2.2.2, ((0 : Int), (0 : Int)), ((W (y1.1 + (1 : Int))), y1.2.1), y2.1, y2.2.2.1, (W (x.1.2.2.2.1 + (1 : Int))), (y5, (⟨#[]⟩ : ByteArray)), ([] : List dVersion), ([] : List dTxn), ([] : List dTxn), y6, y1.2.2.2.1, y1.2.2.2.2, y2.2.2.2.2.2.2.1, y2.2.2.2.2.2.2.2) (fun z7 =>
              k (z7.2.2.2.2.2.2.2.2.1, (z7.2.2.2.2.2.2.2.2.2.1, (z7.2.2.2.2.2.2.2.2.2.2, z7.2.2.2.2.2.1))))))))

def laws_sameVersions_b0 : LB ((List dVersion) × (List dVersion)) Int (Int ⊕ (Int ⊕ Int)) := lb fun u x k =>
    bif (decide (x < (u.1.length : Int))) then
      if 0 ≤ x ∧ x < (u.1.length : Int) then
        if 0 ≤ x ∧ x < (u.2.length : Int) then
          bif (!(Ty.eqB tVersion (rd zVersion u.1 x) (rd zVersion u.2 x))) then
            k (.inr (.inl x))
          else
            k (.inl (W (x + (1 : Int))))
        else none
      else none
    else
      k (.inr (.inr x))

def laws_sameVersions_k : FN ((List dVersion) × (List dVersion)) Bool := fn fun x k =>
  bif ((x.1.length : Int) != (x.2.length : Int)) then
    k false
  else
    lpK laws_sameVersions_b0 (x.1, x.2) (0 : Int) (Sum.elim (fun _ =>
      k false) (fun _ =>
      k true))

def laws_sameWrites_b0 : LB ((List dWrite) × (List dWrite)) Int (Int ⊕ (Int ⊕ Int)) := lb fun u x k =>
    bif (decide (x < (u.1.length : Int))) then
      if 0 ≤ x ∧ x < (u.1.length : Int) then
        if 0 ≤ x ∧ x < (u.2.length : Int) then
          bif (!(Ty.eqB tWrite (rd zWrite u.1 x) (rd zWrite u.2 x))) then
            k (.inr (.inl x))
          else
            k (.inl (W (x + (1 : Int))))
        else none
      else none
    else
      k (.inr (.inr x))

def laws_sameWrites_k : FN ((List dWrite) × (List dWrite)) Bool := fn fun x k =>
  bif ((x.1.length : Int) != (x.2.length : Int)) then
    k false
  else
    lpK laws_sameWrites_b0 (x.1, x.2) (0 : Int) (Sum.elim (fun _ =>
      k false) (fun _ =>
      k true))

def laws_sameTxn_b0 : LB (dTxn × dTxn) Int (Int ⊕ (Int ⊕ Int)) := lb fun u x k =>
    bif (decide (x < (u.1.2.2.2.2.1.length : Int))) then
      if 0 ≤ x ∧ x < (u.1.2.2.2.2.1.length : Int) then
        if 0 ≤ x ∧ x < (u.2.2.2.2.2.1.length : Int) then
          bif (!(Ty.eqB tRange (rd zRange u.1.2.2.2.2.1 x) (rd zRange u.2.2.2.2.2.1 x))) then
            k (.inr (.inl x))
          else
            k (.inl (W (x + (1 : Int))))
        else none
      else none
    else
      k (.inr (.inr x))

def laws_sameTxn_k : FN (dTxn × dTxn) Bool := fn fun x k =>
  let xh := x.2.2.2.2
  bif (x.1.1 != x.2.1) then
    k false
  else
    bif (x.1.2.1 != x.2.2.1) then
      k false
    else
      bif (x.1.2.2.1 != x.2.2.2.1) then
        k false
      else
        bif (x.1.2.2.2.1 != xh.1) then
          k false
        else
          bif (!(x.1.2.2.2.2.2.2.1 == xh.2.2.2.1)) then
            k false
          else
            bif (!(strEq x.1.2.2.2.2.2.2.2 xh.2.2.2.2)) then
              k false
            else
              bif ((x.1.2.2.2.2.1.length : Int) != (xh.2.1.length : Int)) then
                k false
              else
                laws_sameWrites_k (x.1.2.2.2.2.2.1, xh.2.2.1) (fun y1 =>
                  bif (!y1) then
                    k false
                  else
                    lpK laws_sameTxn_b0 (x.1, x.2) (0 : Int) (Sum.elim (fun _ =>
                      k false) (fun _ =>
                      k true)))

def laws_sameTxns_b0 : LB ((List dTxn) × (List dTxn)) Int (Int ⊕ (Int ⊕ Int)) := lb fun u x k =>
    bif (decide (x < (u.1.length : Int))) then
      if 0 ≤ x ∧ x < (u.1.length : Int) then
        if 0 ≤ x ∧ x < (u.2.length : Int) then
          laws_sameTxn_k ((rd zTxn u.1 x), (rd zTxn u.2 x)) (fun y3 =>
            bif (!y3) then
              k (.inr (.inl x))
            else
              k (.inl (W (x + (1 : Int)))))
        else none
      else none
    else
      k (.inr (.inr x))

def laws_sameTxns_k : FN ((List dTxn) × (List dTxn)) Bool := fn fun x k =>
  bif ((x.1.length : Int) != (x.2.length : Int)) then
    k false
  else
    lpK laws_sameTxns_b0 (x.1, x.2) (0 : Int) (Sum.elim (fun _ =>
      k false) (fun _ =>
      k true))

def laws_sameBase_k : FN (dBase × dBase) Bool := fn fun x k =>
  laws_sameVersions_k (x.1.1, x.2.1) (fun y1 =>
    bif y1 then
      laws_sameTxns_k (x.1.2.1, x.2.2.1) (fun y2 =>
        bif y2 then
          laws_sameTxns_k (x.1.2.2.1, x.2.2.2.1) (fun y3 =>
            bif y3 then
              bif (x.1.2.2.2.1 == x.2.2.2.2.1) then
                k (x.1.2.2.2.2 == x.2.2.2.2.2)
              else
                k false
            else
              k false)
        else
          k false)
    else
      k false)

def spec_DrawBase_k : FN (List Int) dBase := fn fun x k =>
  spec_l01New_k x (fun y1 =>
    spec_l09Base_k y1 (fun y2 =>
      k y2.1))

def spec_DrawWrites_k : FN (List Int) (List dWrite) := fn fun x k =>
  spec_l01New_k x (fun y1 =>
    spec_l05Writes_k y1 (fun y2 =>
      k y2.1))

def laws_all_k : FN Unit dRange := fn fun _ k =>
  k ((⟨#[97]⟩ : ByteArray), (⟨#[122, 122, 122]⟩ : ByteArray))

def spec_ScanAt_b0 : LB ((List dVersion) × Int × (List ByteArray)) (Int × (List dRange)) ((Int × (List dRange)) ⊕ (Int × (List dRange))) := lb fun u x k =>
    bif (decide (x.1 < (u.2.2.length : Int))) then
      if 0 ≤ x.1 ∧ x.1 < (u.2.2.length : Int) then
        spec_SeenAt_k (u.1, (rd zStr u.2.2 x.1), u.2.1) (fun y3 =>
          bif y3.2 then
            if 0 ≤ x.1 ∧ x.1 < (u.2.2.length : Int) then
              if x.2.length + [((rd zStr u.2.2 x.1), y3.1)].length ≤ maxLen then
                k (.inl ((W (x.1 + (1 : Int))), (x.2 ++ [((rd zStr u.2.2 x.1), y3.1)])))
              else none
            else none
          else
            k (.inl ((W (x.1 + (1 : Int))), x.2)))
      else none
    else
      k (.inr (x.1, x.2))

def spec_ScanAt_k : FN ((List dVersion) × dRange × Int) (List dRange) := fn fun x k =>
  spec_l06Keys_k (x.1, x.2.1) (fun y1 =>
    lpK spec_ScanAt_b0 (x.1, x.2.2, y1) ((0 : Int), ([] : List dRange)) (fun z2 =>
      k z2.2))

def laws_samePairs_b0 : LB ((List dRange) × (List dRange)) Int (Int ⊕ (Int ⊕ Int)) := lb fun u x k =>
    bif (decide (x < (u.1.length : Int))) then
      if 0 ≤ x ∧ x < (u.1.length : Int) then
        if 0 ≤ x ∧ x < (u.2.length : Int) then
          bif (!(Ty.eqB tRange (rd zRange u.1 x) (rd zRange u.2 x))) then
            k (.inr (.inl x))
          else
            k (.inl (W (x + (1 : Int))))
        else none
      else none
    else
      k (.inr (.inr x))

def laws_samePairs_k : FN ((List dRange) × (List dRange)) Bool := fn fun x k =>
  bif ((x.1.length : Int) != (x.2.length : Int)) then
    k false
  else
    lpK laws_samePairs_b0 (x.1, x.2) (0 : Int) (Sum.elim (fun _ =>
      k false) (fun _ =>
      k true))

def laws_FnThrough_b0 : LB ((List dWrite) × dBase × dBase) Int (Int ⊕ (Int ⊕ Int)) := lb fun u x k =>
    bif (decide (x < (u.1.length : Int))) then
      if 0 ≤ x ∧ x < (u.1.length : Int) then
        spec_SeenAt_k (u.2.2.1, (rd zWrite u.1 x).1, u.2.2.2.2.2.1) (fun y18 =>
          if 0 ≤ x ∧ x < (u.1.length : Int) then
            bif (y18.2 == (rd zWrite u.1 x).2.2) then
              k (.inr (.inl x))
            else
              if 0 ≤ x ∧ x < (u.1.length : Int) then
                bif (!(strEq y18.1 ((rd zWrite u.1 x).2.1))) then
                  k (.inr (.inl x))
                else
                  k (.inl (W (x + (1 : Int))))
              else none
          else none)
      else none
    else
      k (.inr (.inr x))

def laws_FnThrough_b2 : LB ((List dWrite) × dBase × dBase) Int (Int ⊕ (Int ⊕ Int)) := lb fun u x k =>
    let uh := u.2.2.2.2
    bif (decide (x < (uh.1.length : Int))) then
      if 0 ≤ x ∧ x < (uh.1.length : Int) then
        spec_Touches_k ((rd zTxn uh.1 x).2.2.2.2.1, u.1) (fun y19 =>
          bif y19 then
            if 0 ≤ x ∧ x < (uh.1.length : Int) then
              bif (!(rd zTxn uh.1 x).2.2.2.2.2.2.1) then
                k (.inr (.inl x))
              else
                k (.inl (W (x + (1 : Int))))
            else none
          else
            k (.inl (W (x + (1 : Int)))))
      else none
    else
      k (.inr (.inr x))

def laws_FnThrough_k : FN (List Int) Bool := fn fun x k =>
  laws_big_k x (fun y1 =>
    bif y1 then
      k true
    else
      spec_DrawThrough_k x (fun y2 =>
        impl_Through_k (y2.1, y2.2) (fun y3 =>
          spec_Through_k (y2.1, y2.2) (fun y4 =>
            laws_sameBase_k (y3, (y4.2.2.1, (y4.2.2.2.1, (y4.2.2.2.2, (y4.1, y4.2.1))))) (fun y5 =>
              bif (!y5) then
                k false
              else
                spec_DrawBase_k x (fun y6 =>
                  spec_DrawWrites_k x (fun y7 =>
                    impl_Through_k (y6, (y6.2.2.2.2, ((1 : Int), (y6.2.2.2.1, ((0 : Int), (([] : List dRange), (y7, (false, (⟨#[]⟩ : ByteArray))))))))) (fun y8 =>
                      lpK laws_FnThrough_b0 (y7, y6, y8) (0 : Int) (Sum.elim (fun _ =>
                        k false) (fun _ =>
                        lpK laws_FnThrough_b2 (y7, y6, y8) (0 : Int) (Sum.elim (fun _ =>
                          k false) (fun _ =>
                          bif (y8.2.2.2.1 == (W (y6.2.2.2.1 + (1 : Int)))) then
                            laws_all_k () (fun y13 =>
                              spec_ScanAt_k (y8.1, y13, y6.2.2.2.1) (fun y14 =>
                                laws_all_k () (fun y15 =>
                                  spec_ScanAt_k (y6.1, y15, y6.2.2.2.1) (fun y16 =>
                                    laws_samePairs_k (y14, y16) (fun y17 =>
                                      bif y17 then
                                        if 0 ≤ (W ((y8.2.1.length : Int) - (1 : Int))) ∧ (W ((y8.2.1.length : Int) - (1 : Int))) < (y8.2.1.length : Int) then
                                          bif ((rd zTxn y8.2.1 (W ((y8.2.1.length : Int) - (1 : Int)))).1 == y6.2.2.2.2) then
                                            k (y8.2.2.2.2 == (W (y6.2.2.2.2 + (1 : Int))))
                                          else
                                            k false
                                        else none
                                      else
                                        k false)))))
                          else
                            k false))))))))))))

end

end Go.VE
