/- Native programs of the functions, written by gen.py. -/
import Derived.Test.YteolgjmeigifbaaGreatT0
import Derived.Test.YteolgjmeigifbaaGreatU28
namespace Go.VE
noncomputable section
set_option linter.unusedVariables false
set_option linter.unusedSimpArgs false
set_option maxRecDepth 100000
abbrev q0T : Type := ((List vab) × (List vab) × Bool × Int)
abbrev q1T : Type := ((List vab) × Int × (List vab))
abbrev q2T : Type := ((List vab) × Int × Int × Int × ByteArray × ByteArray)
abbrev q3T : Type := ((List vab) × Int × Int × Int)
abbrev q4T : Type := ((List dTxn) × (List dTxn) × Bool × Int)
abbrev q5T : Type := ((List dTxn) × Int × (List dTxn))
abbrev q6T : Type := ((List dTxn) × Int × Int × (List dTxn))
abbrev q7T : Type := ((List dTxn) × Int × Int × Int × Int)
abbrev q8T : Type := ((List dTxn) × Int × Int × Int)
abbrev q9T : Type := ((List vaa) × (List vaa) × Bool × Int)
abbrev q10T : Type := ((List vaa) × (List vaf) × Int × Int × Int × Int × Int × Int × (List vab) × (List vaf) × Bool × ByteArray × ByteArray × ByteArray × (List ByteArray))
abbrev q11T : Type := ((List vaa) × ByteArray × ByteArray × Bool × Int × Int × Int × Int × Int × (List vab) × (List vaf) × Bool × ByteArray)
abbrev q12T : Type := ((List vaa) × ByteArray × Int × Int × (List vaa) × Int × Int)
abbrev q13T : Type := ((List vaa) × ByteArray × Int × Int × Int)
abbrev q14T : Type := ((List vaa) × Int × (List vaa))
abbrev q15T : Type := ((List vaa) × Int × ByteArray × ByteArray × (List ByteArray))
abbrev q16T : Type := ((List vaa) × Int × ByteArray × Int × ByteArray × ByteArray × (List ByteArray) × (List ByteArray))
abbrev q17T : Type := ((List vaa) × Int × Int × (List ByteArray))
abbrev q18T : Type := ((List vaa) × Int × Int × Int × Int × Int × (List vab) × (List vaf) × Bool × ByteArray × (List vab) × (List ByteArray))
abbrev q19T : Type := ((List vaa) × Int × Int × Int × Int × Int × (List vab) × (List vaf) × Bool × ByteArray × ByteArray × ByteArray × (List vaa))
abbrev q20T : Type := ((List vaa) × Int × Int × Int × Int × Int × Int × (List vab) × (List vaf) × Bool × ByteArray × ByteArray × ByteArray × (List vab) × (List ByteArray))
abbrev q21T : Type := ((List vaa) × Int × Int × Int)
abbrev q22T : Type := ((List vaf) × (List vaf) × Bool × Int)
abbrev q23T : Type := ((List vaf) × Bool × (List vaf) × Int × Int)
abbrev q24T : Type := ((List vaf) × Int × (List vaf))
abbrev q25T : Type := ((List vaf) × Int × Int × Int × ByteArray)
abbrev q26T : Type := ((List vaf) × Int × Int × Int)
abbrev q27T : Type := (Bool × (List vab) × (List vaa) × (List dTxn) × (List dTxn) × (List dTxn))
abbrev q28T : Type := (Bool × (List vab) × Int × Int × Int × Int × Int × Int × (List vab) × (List vaf) × Bool × ByteArray)
abbrev q29T : Type := (Bool × Int × Int × (List vab) × (List vaa) × (List dTxn) × (List dTxn) × (List dTxn))
abbrev q30T : Type := (Bool × Int × Int × Int × (List vab) × (List vaa) × (List dTxn) × (List dTxn) × (List dTxn))
abbrev q31T : Type := (Bool × Int × Int × Int × Int × (List vab) × (List vaf) × Bool × ByteArray × ByteArray × ByteArray × Int × Int × Int × Int × Bool × ByteArray × Int × Int × Int × Int × Bool × ByteArray × (List vab) × (List vaf) × (List vab) × (List vaf))
abbrev q32T : Type := (Bool × Int × Int × Int × Int × (List vab) × (List vaf) × Bool × ByteArray × ByteArray × ByteArray × Int × Int × Int × Int × Bool × ByteArray × Int × Int × Int × Int × Bool × ByteArray × (List vab) × (List vaf))
abbrev q33T : Type := (Bool × Int × Int × Int × Int × (List vab) × (List vaf) × Bool × ByteArray)
abbrev q34T : Type := (Bool × Int × Int × Int × Int × Int × (List vab) × (List vaf) × Bool × ByteArray × ByteArray × ByteArray × Int × Int × Int × Int × Bool × ByteArray × Int × Int × Int × Int × Bool × ByteArray × (List vab) × (List vaf) × (List vab) × (List vaf))
abbrev q35T : Type := (Bool × Int × Int × Int × Int × Int × (List vab) × (List vaf) × Bool × ByteArray × ByteArray × ByteArray × Int × Int × Int × Int × Bool × ByteArray × Int × Int × Int × Int × Bool × ByteArray × (List vab) × (List vaf))
abbrev q36T : Type := (Bool × Int × Int × Int × Int × Int × (List vab) × (List vaf) × Bool × ByteArray)
abbrev q37T : Type := (ByteArray × ByteArray × Bool × Int)
abbrev q38T : Type := (Int × (List ByteArray) × (List ByteArray))
abbrev q39T : Type := (Int × (List vaa) × (List dTxn) × (List dTxn) × (List dTxn))
abbrev q40T : Type := (Int × (List vaa) × (List dTxn) × (List dTxn))
abbrev q41T : Type := (Int × Bool × Int × (List vaa) × (List dTxn) × (List dTxn) × Int × Int × (List dTxn) × ByteArray × ByteArray × Int × Int × (List vab) × Int × Int × (List vab) × (List vaa) × (List dTxn) × (List dTxn) × (List dTxn) × (List vaa) × (List dTxn) × (List dTxn) × (List dTxn))
abbrev q42T : Type := (Int × Bool × Int × Int × (List vaa) × (List dTxn) × (List dTxn) × Int × Int × (List dTxn) × ByteArray × ByteArray × Int × Int × (List vab) × Int × Int × Int × Int × (List vab) × (List vaa) × (List dTxn) × (List dTxn) × (List dTxn) × (List vaa) × (List dTxn) × (List dTxn) × (List dTxn) × (List vaa) × (List dTxn) × (List dTxn) × (List dTxn))
abbrev q43T : Type := (Int × Int × (List vaa) × (List dTxn) × (List dTxn) × (List dTxn))
abbrev q44T : Type := (Int × Int × (List vaa) × (List dTxn) × (List dTxn))
abbrev q45T : Type := (Int × Int × Int × (List vaa) × (List dTxn) × (List dTxn) × (List dTxn) × (List vab))
abbrev q46T : Type := (Int × Int × Int × (List vaa) × (List dTxn) × (List dTxn) × Int × Int × (List dTxn))
abbrev q47T : Type := (Int × Int × Int × Int × (List vaa) × (List dTxn) × (List dTxn) × (List dTxn))
abbrev q48T : Type := (Int × Int × Int × Int × Bool × ByteArray × (List vab) × (List vaf))
abbrev q49T : Type := (Int × Int × Int × Int × Bool × ByteArray × Bool × (List vab) × (List vaf))
def v8l (a0 : vaa) (a1 : Int) (k : Int → Option Res) : Option Res :=
 bif (decide ((IntKind.wrap .i64 (a1 - (a0.1.size : Int))) < (0 : Int))) then
 k (-1 : Int)
 else
 bif (decide ((IntKind.wrap .i64 ((IntKind.wrap .i64 (a1 - (a0.1.size : Int))) - (a0.2.1.size : Int))) < (0 : Int))) then
 k (-1 : Int)
 else
 k (IntKind.wrap .i64 ((IntKind.wrap .i64 (a1 - (a0.1.size : Int))) - (a0.2.1.size : Int)))
def vxt := shut v8l
theorem wcl : vxt = v8l := vag _
instance n57n_p (a0 : vaa) (a1 : Int) : ParC (vxt a0 a1) := by rw [wcl]; unfold v8l; (try dsimp only); infer_instance
def vkh (x : q21T) (k : q21T ⊕ (q21T ⊕ q21T) → Option Res) : Option Res :=
 bif (decide (x.2.2.2 < (x.1.length : Int))) then
 if 0 ≤ x.2.2.2 ∧ x.2.2.2 < (x.1.length : Int) then
 vxt (rd (Ty.zero tVersion) x.1 x.2.2.2) x.2.1 (fun y3 =>
 bif (decide (y3 < 0)) then
 k (.inr (.inl (x.1, y3, (-1 : Int), x.2.2.2)))
 else
 k (.inl (x.1, y3, x.2.2.1, (IntKind.wrap .i64 (x.2.2.2 + 1)))))
 else none
 else
 k (.inr (.inr (x.1, x.2.1, x.2.2.1, x.2.2.2)))
instance n58n_bp0 (x : q21T) : ParC (vkh x) := by unfold vkh; (try dsimp only); infer_instance
def v9o (a0 : (List vaa)) (a1 : Int) (k : Int → Option Res) : Option Res :=
 bif (decide ((IntKind.wrap .i64 (a1 - (a0.length : Int))) < (0 : Int))) then
 k (-1 : Int)
 else
 vae vkh Fuel (a0, (IntKind.wrap .i64 (a1 - (a0.length : Int))), 0, 0) (Sum.elim (fun z1 =>
 k z1.2.2.1) (fun z2 =>
 k z2.2.1))
def v21 := shut v9o
theorem wea : v21 = v9o := vag _
instance n58n_p (a0 : (List vaa)) (a1 : Int) : ParC (v21 a0 a1) := by rw [wea]; unfold v9o; (try dsimp only); infer_instance
def v8m (a0 : vab) (a1 : Int) (k : Int → Option Res) : Option Res :=
 bif (decide ((IntKind.wrap .i64 (a1 - (a0.1.size : Int))) < (0 : Int))) then
 k (-1 : Int)
 else
 bif (decide ((IntKind.wrap .i64 ((IntKind.wrap .i64 (a1 - (a0.1.size : Int))) - (a0.2.size : Int))) < (0 : Int))) then
 k (-1 : Int)
 else
 k (IntKind.wrap .i64 ((IntKind.wrap .i64 (a1 - (a0.1.size : Int))) - (a0.2.size : Int)))
def vqo := shut v8m
theorem whb : vqo = v8m := vag _
instance n53n_p (a0 : vab) (a1 : Int) : ParC (vqo a0 a1) := by rw [whb]; unfold v8m; (try dsimp only); infer_instance
def vky (x : q3T) (k : q3T ⊕ (q3T ⊕ q3T) → Option Res) : Option Res :=
 bif (decide (x.2.2.2 < (x.1.length : Int))) then
 if 0 ≤ x.2.2.2 ∧ x.2.2.2 < (x.1.length : Int) then
 vqo (rd (Ty.zero tRange) x.1 x.2.2.2) x.2.1 (fun y3 =>
 bif (decide (y3 < 0)) then
 k (.inr (.inl (x.1, y3, (-1 : Int), x.2.2.2)))
 else
 k (.inl (x.1, y3, x.2.2.1, (IntKind.wrap .i64 (x.2.2.2 + 1)))))
 else none
 else
 k (.inr (.inr (x.1, x.2.1, x.2.2.1, x.2.2.2)))
instance n54n_bp0 (x : q3T) : ParC (vky x) := by unfold vky; (try dsimp only); infer_instance
def v9f (a0 : (List vab)) (a1 : Int) (k : Int → Option Res) : Option Res :=
 bif (decide ((IntKind.wrap .i64 (a1 - (a0.length : Int))) < (0 : Int))) then
 k (-1 : Int)
 else
 vae vky Fuel (a0, (IntKind.wrap .i64 (a1 - (a0.length : Int))), 0, 0) (Sum.elim (fun z1 =>
 k z1.2.2.1) (fun z2 =>
 k z2.2.1))
def v2z := shut v9f
theorem wcg : v2z = v9f := vag _
instance n54n_p (a0 : (List vab)) (a1 : Int) : ParC (v2z a0 a1) := by rw [wcg]; unfold v9f; (try dsimp only); infer_instance
def v8f (a0 : vaf) (a1 : Int) (k : Int → Option Res) : Option Res :=
 bif (decide ((IntKind.wrap .i64 (a1 - (a0.1.size : Int))) < (0 : Int))) then
 k (-1 : Int)
 else
 bif (decide ((IntKind.wrap .i64 ((IntKind.wrap .i64 (a1 - (a0.1.size : Int))) - (a0.2.1.size : Int))) < (0 : Int))) then
 k (-1 : Int)
 else
 k (IntKind.wrap .i64 ((IntKind.wrap .i64 (a1 - (a0.1.size : Int))) - (a0.2.1.size : Int)))
def vwq := shut v8f
theorem wes : vwq = v8f := vag _
instance n59n_p (a0 : vaf) (a1 : Int) : ParC (vwq a0 a1) := by rw [wes]; unfold v8f; (try dsimp only); infer_instance
def vld (x : q26T) (k : q26T ⊕ (q26T ⊕ q26T) → Option Res) : Option Res :=
 bif (decide (x.2.2.2 < (x.1.length : Int))) then
 if 0 ≤ x.2.2.2 ∧ x.2.2.2 < (x.1.length : Int) then
 vwq (rd (Ty.zero tWrite) x.1 x.2.2.2) x.2.1 (fun y3 =>
 bif (decide (y3 < 0)) then
 k (.inr (.inl (x.1, y3, (-1 : Int), x.2.2.2)))
 else
 k (.inl (x.1, y3, x.2.2.1, (IntKind.wrap .i64 (x.2.2.2 + 1)))))
 else none
 else
 k (.inr (.inr (x.1, x.2.1, x.2.2.1, x.2.2.2)))
instance n60n_bp0 (x : q26T) : ParC (vld x) := by unfold vld; (try dsimp only); infer_instance
def v8t (a0 : (List vaf)) (a1 : Int) (k : Int → Option Res) : Option Res :=
 bif (decide ((IntKind.wrap .i64 (a1 - (a0.length : Int))) < (0 : Int))) then
 k (-1 : Int)
 else
 vae vld Fuel (a0, (IntKind.wrap .i64 (a1 - (a0.length : Int))), 0, 0) (Sum.elim (fun z1 =>
 k z1.2.2.1) (fun z2 =>
 k z2.2.1))
def v1u := shut v8t
theorem wfl : v1u = v8t := vag _
instance n60n_p (a0 : (List vaf)) (a1 : Int) : ParC (v1u a0 a1) := by rw [wfl]; unfold v8t; (try dsimp only); infer_instance
def v7y (a0 : dTxn) (a1 : Int) (k : Int → Option Res) : Option Res :=
 v2z a0.2.2.2.2.1 a1 (fun y1 =>
 bif (decide (y1 < 0)) then
 k (-1 : Int)
 else
 v1u a0.2.2.2.2.2.1 y1 (fun y2 =>
 bif (decide (y2 < 0)) then
 k (-1 : Int)
 else
 bif (decide ((IntKind.wrap .i64 (y2 - (a0.2.2.2.2.2.2.2.size : Int))) < (0 : Int))) then
 k (-1 : Int)
 else
 k (IntKind.wrap .i64 (y2 - (a0.2.2.2.2.2.2.2.size : Int)))))
def vvs := shut v7y
theorem whg : vvs = v7y := vag _
instance n55n_p (a0 : dTxn) (a1 : Int) : ParC (vvs a0 a1) := by rw [whg]; unfold v7y; (try dsimp only); infer_instance
def vkk (x : q8T) (k : q8T ⊕ (q8T ⊕ q8T) → Option Res) : Option Res :=
 bif (decide (x.2.2.2 < (x.1.length : Int))) then
 if 0 ≤ x.2.2.2 ∧ x.2.2.2 < (x.1.length : Int) then
 vvs (rd (Ty.zero tTxn) x.1 x.2.2.2) x.2.1 (fun y3 =>
 bif (decide (y3 < 0)) then
 k (.inr (.inl (x.1, y3, (-1 : Int), x.2.2.2)))
 else
 k (.inl (x.1, y3, x.2.2.1, (IntKind.wrap .i64 (x.2.2.2 + 1)))))
 else none
 else
 k (.inr (.inr (x.1, x.2.1, x.2.2.1, x.2.2.2)))
instance n56n_bp0 (x : q8T) : ParC (vkk x) := by unfold vkk; (try dsimp only); infer_instance
def v8c (a0 : (List dTxn)) (a1 : Int) (k : Int → Option Res) : Option Res :=
 bif (decide ((IntKind.wrap .i64 (a1 - (a0.length : Int))) < (0 : Int))) then
 k (-1 : Int)
 else
 vae vkk Fuel (a0, (IntKind.wrap .i64 (a1 - (a0.length : Int))), 0, 0) (Sum.elim (fun z1 =>
 k z1.2.2.1) (fun z2 =>
 k z2.2.1))
def vr0 := shut v8c
theorem wgb : vr0 = v8c := vag _
instance n56n_p (a0 : (List dTxn)) (a1 : Int) : ParC (vr0 a0 a1) := by rw [wgb]; unfold v8c; (try dsimp only); infer_instance
def v8z (a0 : vmb) (a1 : Int) (k : Int → Option Res) : Option Res :=
 v21 a0.1 a1 (fun y1 =>
 bif (decide (y1 < 0)) then
 k (-1 : Int)
 else
 vr0 a0.2.1 y1 (fun y2 =>
 bif (decide (y2 < 0)) then
 k (-1 : Int)
 else
 vr0 a0.2.2.1 y2 (fun y3 =>
 bif (decide (y3 < 0)) then
 k (-1 : Int)
 else
 k y3)))
def v25 := shut v8z
theorem wcc : v25 = v8z := vag _
instance n51n_p (a0 : vmb) (a1 : Int) : ParC (v25 a0 a1) := by rw [wcc]; unfold v8z; (try dsimp only); infer_instance
def v67 (a0 : vbb) (a1 : Int) (k : Int → Option Res) : Option Res :=
 v25 a0.1 a1 (fun y1 =>
 bif (decide (y1 < 0)) then
 k (-1 : Int)
 else
 vr0 a0.2 y1 (fun y2 =>
 bif (decide (y2 < 0)) then
 k (-1 : Int)
 else
 k y2))
def vw1 := shut v67
theorem wdp : vw1 = v67 := vag _
instance n52n_p (a0 : vbb) (a1 : Int) : ParC (vw1 a0 a1) := by rw [wdp]; unfold v67; (try dsimp only); infer_instance
def wdg (a0 : vaa) (k : q37T → Option Res) : Option Res :=
 k (a0.1, a0.2.1, a0.2.2.1, a0.2.2.2)
def vvj := shut wdg
theorem wgy : vvj = wdg := vag _
instance n67n_p (a0 : vaa) : ParC (vvj a0) := by rw [wgy]; unfold wdg; (try dsimp only); infer_instance
def vlp (x : q14T) (k : q14T ⊕ q14T → Option Res) : Option Res :=
 bif (decide (x.2.1 < (x.1.length : Int))) then
 if 0 ≤ x.2.1 ∧ x.2.1 < (x.1.length : Int) then
 vvj (rd (Ty.zero tVersion) x.1 x.2.1) (fun y2 =>
 if 0 ≤ x.2.1 ∧ x.2.1 < (x.2.2.length : Int) then
 k (.inl (x.1, (IntKind.wrap .i64 (x.2.1 + 1)), (x.2.2.set x.2.1.toNat y2)))
 else none)
 else none
 else
 k (.inr (x.1, x.2.1, x.2.2))
instance n68n_bp0 (x : q14T) : ParC (vlp x) := by unfold vlp; (try dsimp only); infer_instance
def v9b (a0 : (List vaa)) (k : (List vaa) → Option Res) : Option Res :=
 if 0 ≤ (a0.length : Int) ∧ (a0.length : Int) ≤ (a0.length : Int) ∧ (a0.length : Int) ≤ (VE.maxLen : Int) then
 vae vlp Fuel (a0, 0, (List.replicate (a0.length : Int).toNat (Ty.zero tVersion))) (fun z1 =>
 k z1.2.2)
 else none
def vvw := shut v9b
theorem wdf : vvw = v9b := vag _
instance n68n_p (a0 : (List vaa)) : ParC (vvw a0) := by rw [wdf]; unfold v9b; (try dsimp only); infer_instance
def wdk (a0 : vab) (k : (ByteArray × ByteArray) → Option Res) : Option Res :=
 k (a0.1, a0.2)
def viw := shut wdk
theorem wdc : viw = wdk := vag _
instance n63n_p (a0 : vab) : ParC (viw a0) := by rw [wdc]; unfold wdk; (try dsimp only); infer_instance
def vji (x : q1T) (k : q1T ⊕ q1T → Option Res) : Option Res :=
 bif (decide (x.2.1 < (x.1.length : Int))) then
 if 0 ≤ x.2.1 ∧ x.2.1 < (x.1.length : Int) then
 viw (rd (Ty.zero tRange) x.1 x.2.1) (fun y2 =>
 if 0 ≤ x.2.1 ∧ x.2.1 < (x.2.2.length : Int) then
 k (.inl (x.1, (IntKind.wrap .i64 (x.2.1 + 1)), (x.2.2.set x.2.1.toNat y2)))
 else none)
 else none
 else
 k (.inr (x.1, x.2.1, x.2.2))
instance n64n_bp0 (x : q1T) : ParC (vji x) := by unfold vji; (try dsimp only); infer_instance
def v80 (a0 : (List vab)) (k : (List vab) → Option Res) : Option Res :=
 if 0 ≤ (a0.length : Int) ∧ (a0.length : Int) ≤ (a0.length : Int) ∧ (a0.length : Int) ≤ (VE.maxLen : Int) then
 vae vji Fuel (a0, 0, (List.replicate (a0.length : Int).toNat (Ty.zero tRange))) (fun z1 =>
 k z1.2.2)
 else none
def vxi := shut v80
theorem wcq : vxi = v80 := vag _
instance n64n_p (a0 : (List vab)) : ParC (vxi a0) := by rw [wcq]; unfold v80; (try dsimp only); infer_instance
def wgu (a0 : vaf) (k : (ByteArray × ByteArray × Bool) → Option Res) : Option Res :=
 k (a0.1, a0.2.1, a0.2.2)
def vyi := shut wgu
theorem wc2 : vyi = wgu := vag _
instance n69n_p (a0 : vaf) : ParC (vyi a0) := by rw [wc2]; unfold wgu; (try dsimp only); infer_instance
def vli (x : q24T) (k : q24T ⊕ q24T → Option Res) : Option Res :=
 bif (decide (x.2.1 < (x.1.length : Int))) then
 if 0 ≤ x.2.1 ∧ x.2.1 < (x.1.length : Int) then
 vyi (rd (Ty.zero tWrite) x.1 x.2.1) (fun y2 =>
 if 0 ≤ x.2.1 ∧ x.2.1 < (x.2.2.length : Int) then
 k (.inl (x.1, (IntKind.wrap .i64 (x.2.1 + 1)), (x.2.2.set x.2.1.toNat y2)))
 else none)
 else none
 else
 k (.inr (x.1, x.2.1, x.2.2))
instance n70n_bp0 (x : q24T) : ParC (vli x) := by unfold vli; (try dsimp only); infer_instance
def v6f (a0 : (List vaf)) (k : (List vaf) → Option Res) : Option Res :=
 if 0 ≤ (a0.length : Int) ∧ (a0.length : Int) ≤ (a0.length : Int) ∧ (a0.length : Int) ≤ (VE.maxLen : Int) then
 vae vli Fuel (a0, 0, (List.replicate (a0.length : Int).toNat (Ty.zero tWrite))) (fun z1 =>
 k z1.2.2)
 else none
def vyg := shut v6f
theorem wgo : vyg = v6f := vag _
instance n70n_p (a0 : (List vaf)) : ParC (vyg a0) := by rw [wgo]; unfold v6f; (try dsimp only); infer_instance
def v88 (a0 : dTxn) (k : q48T → Option Res) : Option Res :=
 vxi a0.2.2.2.2.1 (fun y1 =>
 vyg a0.2.2.2.2.2.1 (fun y2 =>
 k (a0.1, a0.2.1, a0.2.2.1, a0.2.2.2.1, a0.2.2.2.2.2.2.1, a0.2.2.2.2.2.2.2, y1, y2)))
def vsa := shut v88
theorem wgd : vsa = v88 := vag _
instance n65n_p (a0 : dTxn) : ParC (vsa a0) := by rw [wgd]; unfold v88; (try dsimp only); infer_instance
def vkp (x : q5T) (k : q5T ⊕ q5T → Option Res) : Option Res :=
 bif (decide (x.2.1 < (x.1.length : Int))) then
 if 0 ≤ x.2.1 ∧ x.2.1 < (x.1.length : Int) then
 vsa (rd (Ty.zero tTxn) x.1 x.2.1) (fun y2 =>
 if 0 ≤ x.2.1 ∧ x.2.1 < (x.2.2.length : Int) then
 k (.inl (x.1, (IntKind.wrap .i64 (x.2.1 + 1)), (x.2.2.set x.2.1.toNat (y2.1, (y2.2.1, (y2.2.2.1, (y2.2.2.2.1, (y2.2.2.2.2.2.2.1, (y2.2.2.2.2.2.2.2, (y2.2.2.2.2.1, y2.2.2.2.2.2.1))))))))))
 else none)
 else none
 else
 k (.inr (x.1, x.2.1, x.2.2))
instance n66n_bp0 (x : q5T) : ParC (vkp x) := by unfold vkp; (try dsimp only); infer_instance
def v71 (a0 : (List dTxn)) (k : (List dTxn) → Option Res) : Option Res :=
 if 0 ≤ (a0.length : Int) ∧ (a0.length : Int) ≤ (a0.length : Int) ∧ (a0.length : Int) ≤ (VE.maxLen : Int) then
 vae vkp Fuel (a0, 0, (List.replicate (a0.length : Int).toNat (Ty.zero tTxn))) (fun z1 =>
 k z1.2.2)
 else none
def vqn := shut v71
theorem wcy : vqn = v71 := vag _
instance n66n_p (a0 : (List dTxn)) : ParC (vqn a0) := by rw [wcy]; unfold v71; (try dsimp only); infer_instance
def v63 (a0 : vmb) (k : q44T → Option Res) : Option Res :=
 vvw a0.1 (fun y1 =>
 vqn a0.2.1 (fun y2 =>
 vqn a0.2.2.1 (fun y3 =>
 k (a0.2.2.2.1, a0.2.2.2.2, y1, y2, y3))))
def vxm := shut v63
theorem wdm : vxm = v63 := vag _
instance n61n_p (a0 : vmb) : ParC (vxm a0) := by rw [wdm]; unfold v63; (try dsimp only); infer_instance
def v6z (a0 : vbb) (k : q43T → Option Res) : Option Res :=
 vxm a0.1 (fun y1 =>
 vqn a0.2 (fun y2 =>
 k (y1.1, y1.2.1, y1.2.2.1, y1.2.2.2.1, y1.2.2.2.2, y2)))
def vhl := shut v6z
theorem wep : vhl = v6z := vag _
instance n62n_p (a0 : vbb) : ParC (vhl a0) := by rw [wep]; unfold v6z; (try dsimp only); infer_instance
def v9z (a0 : dTxn) (k : q48T → Option Res) : Option Res :=
 if ([] : List vab).length + a0.2.2.2.2.1.length ≤ VE.maxLen then
 if ([] : List vaf).length + a0.2.2.2.2.2.1.length ≤ VE.maxLen then
 k (a0.1, a0.2.1, a0.2.2.1, a0.2.2.2.1, a0.2.2.2.2.2.2.1, a0.2.2.2.2.2.2.2, (([] : List vab) ++ a0.2.2.2.2.1), (([] : List vaf) ++ a0.2.2.2.2.2.1))
 else none
 else none
def vqh := shut v9z
theorem wcn : vqh = v9z := vag _
instance n92n_p (a0 : dTxn) : ParC (vqh a0) := by rw [wcn]; unfold v9z; (try dsimp only); infer_instance
def vkx (x : q5T) (k : q5T ⊕ q5T → Option Res) : Option Res :=
 bif (decide (x.2.1 < (x.1.length : Int))) then
 if 0 ≤ x.2.1 ∧ x.2.1 < (x.1.length : Int) then
 vqh (rd (Ty.zero tTxn) x.1 x.2.1) (fun y2 =>
 if x.2.2.length + [(y2.1, (y2.2.1, (y2.2.2.1, (y2.2.2.2.1, (y2.2.2.2.2.2.2.1, (y2.2.2.2.2.2.2.2, (y2.2.2.2.2.1, y2.2.2.2.2.2.1)))))))].length ≤ VE.maxLen then
 k (.inl (x.1, (IntKind.wrap .i64 (x.2.1 + (1 : Int))), (x.2.2 ++ [(y2.1, (y2.2.1, (y2.2.2.1, (y2.2.2.2.1, (y2.2.2.2.2.2.2.1, (y2.2.2.2.2.2.2.2, (y2.2.2.2.2.1, y2.2.2.2.2.2.1)))))))])))
 else none)
 else none
 else
 k (.inr (x.1, x.2.1, x.2.2))
instance n94n_bp0 (x : q5T) : ParC (vkx x) := by unfold vkx; (try dsimp only); infer_instance
def v7v (a0 : (List dTxn)) (k : (List dTxn) → Option Res) : Option Res :=
 vae vkx Fuel (a0, 0, ([] : List dTxn)) (fun z1 =>
 k z1.2.2)
def vqi := shut v7v
theorem wd3 : vqi = v7v := vag _
instance n94n_p (a0 : (List dTxn)) : ParC (vqi a0) := by rw [wd3]; unfold v7v; (try dsimp only); infer_instance
def v8x (a0 : vmb) (k : q44T → Option Res) : Option Res :=
 if ([] : List vaa).length + a0.1.length ≤ VE.maxLen then
 vqi a0.2.1 (fun y1 =>
 vqi a0.2.2.1 (fun y2 =>
 k (a0.2.2.2.1, a0.2.2.2.2, (([] : List vaa) ++ a0.1), y1, y2)))
 else none
def v9v := shut v8x
theorem wdr : v9v = v8x := vag _
instance n93n_p (a0 : vmb) : ParC (v9v a0) := by rw [wdr]; unfold v8x; (try dsimp only); infer_instance
def v6l (a0 : vbb) (k : q43T → Option Res) : Option Res :=
 v9v a0.1 (fun y1 =>
 vqi a0.2 (fun y2 =>
 k (y1.1, y1.2.1, y1.2.2.1, y1.2.2.2.1, y1.2.2.2.2, y2)))
def v17 := shut v6l
theorem wg2 : v17 = v6l := vag _
instance n95n_p (a0 : vbb) : ParC (v17 a0) := by rw [wg2]; unfold v6l; (try dsimp only); infer_instance
def vll (x : q46T) (k : q46T ⊕ (q46T ⊕ q46T) → Option Res) : Option Res :=
 let xh := x.2.2.2.2.2.2.2.2
 bif (decide (x.2.2.1 < (xh.length : Int))) then
 if 0 ≤ x.2.2.1 ∧ x.2.2.1 < (xh.length : Int) then
 bif ((rd (Ty.zero tTxn) xh x.2.2.1).1 == x.1) then
 k (.inr (.inl (x.1, x.2.2.1, x.2.2.1, x.2.2.2.1, x.2.2.2.2.1, x.2.2.2.2.2.1, x.2.2.2.2.2.2.1, x.2.2.2.2.2.2.2.1, xh)))
 else
 k (.inl (x.1, x.2.1, (IntKind.wrap .i64 (x.2.2.1 + 1)), x.2.2.2.1, x.2.2.2.2.1, x.2.2.2.2.2.1, x.2.2.2.2.2.2.1, x.2.2.2.2.2.2.2.1, xh))
 else none
 else
 k (.inr (.inr (x.1, x.2.1, x.2.2.1, x.2.2.2.1, x.2.2.2.2.1, x.2.2.2.2.2.1, x.2.2.2.2.2.2.1, x.2.2.2.2.2.2.2.1, xh)))
instance n79n_bp0 (x : q46T) : ParC (vll x) := by unfold vll; (try dsimp only); infer_instance
def v8a (a0 : vbb) (a1 : Int) (k : Int → Option Res) : Option Res :=
 vae vll Fuel (a1, 0, 0, a0.1.1, a0.1.2.1, a0.1.2.2.1, a0.1.2.2.2.1, a0.1.2.2.2.2, a0.2) (Sum.elim (fun z1 =>
 k z1.2.1) (fun _ =>
 k (-1 : Int)))
def vys := shut v8a
theorem whi : vys = v8a := vag _
instance n79n_p (a0 : vbb) (a1 : Int) : ParC (vys a0 a1) := by rw [whi]; unfold v8a; (try dsimp only); infer_instance
def v7l (a0 : Int) (a1 : Int) (a2 : Int) (k : Bool → Option Res) : Option Res :=
 bif (decide (a0 ≥ a1)) then
 k (decide (a0 ≤ a2))
 else
 k false
def vf3 := shut v7l
theorem wdd : vf3 = v7l := vag _
instance n89n_p (a0 : Int) (a1 : Int) (a2 : Int) : ParC (vf3 a0 a1 a2) := by rw [wdd]; unfold v7l; (try dsimp only); infer_instance
def vlk (x : (ByteArray × Bool × Int)) (k : (ByteArray × Bool × Int) ⊕ ((ByteArray × Bool × Int) ⊕ (ByteArray × Bool × Int)) → Option Res) : Option Res :=
 bif (decide (x.2.2 < (x.1.size : Int))) then
 if 0 ≤ x.2.2 ∧ x.2.2 < (x.1.size : Int) then
 bif (decide ((bt x.1 x.2.2) < (97 : Int))) then
 k (.inr (.inl (x.1, false, x.2.2)))
 else
 if 0 ≤ x.2.2 ∧ x.2.2 < (x.1.size : Int) then
 bif (decide ((bt x.1 x.2.2) > (122 : Int))) then
 k (.inr (.inl (x.1, false, x.2.2)))
 else
 k (.inl (x.1, x.2.1, (IntKind.wrap .i64 (x.2.2 + 1))))
 else none
 else none
 else
 k (.inr (.inr (x.1, x.2.1, x.2.2)))
instance n78n_bp0 (x : (ByteArray × Bool × Int)) : ParC (vlk x) := by unfold vlk; (try dsimp only); infer_instance
def v7z (a0 : ByteArray) (k : Bool → Option Res) : Option Res :=
 vae vlk Fuel (a0, false, 0) (Sum.elim (fun z1 =>
 k z1.2.1) (fun z2 =>
 vf3 (z2.1.size : Int) (1 : Int) (3 : Int) (fun y3 =>
 k y3)))
def vmp := shut v7z
theorem whc : vmp = v7z := vag _
instance n78n_p (a0 : ByteArray) : ParC (vmp a0) := by rw [whc]; unfold v7z; (try dsimp only); infer_instance
def v7n (a0 : vab) (k : Bool → Option Res) : Option Res :=
 vmp a0.1 (fun y1 =>
 bif y1 then
 vmp a0.2 (fun y2 =>
 bif y2 then
 k ((vaj a0.1 a0.2) || (vas a0.1 a0.2))
 else
 k false)
 else
 k false)
def vol := shut v7n
theorem wf3 : vol = v7n := vag _
instance n82n_p (a0 : vab) : ParC (vol a0) := by rw [wf3]; unfold v7n; (try dsimp only); infer_instance
def v68 (a0 : vaf) (k : Bool → Option Res) : Option Res :=
 vmp a0.1 (fun y1 =>
 bif y1 then
 bif (decide ((a0.2.1.size : Int) ≤ (12 : Int))) then
 bif (!a0.2.2) then
 k true
 else
 k (vas a0.2.1 (⟨#[]⟩ : ByteArray))
 else
 k false
 else
 k false)
def vw7 := shut v68
theorem wcm : vw7 = v68 := vag _
instance n87n_p (a0 : vaf) : ParC (vw7 a0) := by rw [wcm]; unfold v68; (try dsimp only); infer_instance
def vjd (x : ((List vaf) × Bool × Int)) (k : ((List vaf) × Bool × Int) ⊕ (((List vaf) × Bool × Int) ⊕ ((List vaf) × Bool × Int)) → Option Res) : Option Res :=
 bif (decide (x.2.2 < (x.1.length : Int))) then
 if 0 ≤ x.2.2 ∧ x.2.2 < (x.1.length : Int) then
 vw7 (rd (Ty.zero tWrite) x.1 x.2.2) (fun y3 =>
 bif (!y3) then
 k (.inr (.inl (x.1, false, x.2.2)))
 else
 bif (decide (x.2.2 > 0)) then
 if 0 ≤ (IntKind.wrap .i64 (x.2.2 - 1)) ∧ (IntKind.wrap .i64 (x.2.2 - 1)) < (x.1.length : Int) then
 if 0 ≤ x.2.2 ∧ x.2.2 < (x.1.length : Int) then
 bif (!(vaj ((rd (Ty.zero tWrite) x.1 (IntKind.wrap .i64 (x.2.2 - 1))).1) ((rd (Ty.zero tWrite) x.1 x.2.2).1))) then
 k (.inr (.inl (x.1, false, x.2.2)))
 else
 k (.inl (x.1, x.2.1, (IntKind.wrap .i64 (x.2.2 + 1))))
 else none
 else none
 else
 k (.inl (x.1, x.2.1, (IntKind.wrap .i64 (x.2.2 + 1)))))
 else none
 else
 k (.inr (.inr (x.1, x.2.1, x.2.2)))
instance n88n_bp0 (x : ((List vaf) × Bool × Int)) : ParC (vjd x) := by unfold vjd; (try dsimp only); infer_instance
def v7g (a0 : (List vaf)) (k : Bool → Option Res) : Option Res :=
 vae vjd Fuel (a0, false, 0) (Sum.elim (fun z1 =>
 k z1.2.1) (fun z2 =>
 k (decide ((z2.1.length : Int) ≤ (8 : Int)))))
def vta := shut v7g
theorem wgq : vta = v7g := vag _
instance n88n_p (a0 : (List vaf)) : ParC (vta a0) := by rw [wgq]; unfold v7g; (try dsimp only); infer_instance
def vbr (x : q33T) (k : q33T → Option Res) : Option Res :=
 let xh := x.2.2.2.2.2.2.2.2
 bif (x.2.2.1 != (1 : Int)) then
 k (true, x.2.1, x.2.2.1, x.2.2.2.1, x.2.2.2.2.1, x.2.2.2.2.2.1, x.2.2.2.2.2.2.1, x.2.2.2.2.2.2.2.1, xh)
 else
 k ((!x.2.2.2.2.2.2.2.1), x.2.1, x.2.2.1, x.2.2.2.1, x.2.2.2.2.1, x.2.2.2.2.2.1, x.2.2.2.2.2.2.1, x.2.2.2.2.2.2.2.1, xh)
instance n86n_jp5000012 (x : q33T) : ParC (vbr x) := by unfold vbr; (try dsimp only); infer_instance
def vbp (x : q33T) (k : q33T → Option Res) : Option Res :=
 let xh := x.2.2.2.2.2.2.2.2
 let t0 := (x.1, x.2.1, x.2.2.1, x.2.2.2.1, x.2.2.2.2.1, x.2.2.2.2.2.1, x.2.2.2.2.2.2.1, x.2.2.2.2.2.2.2.1, xh)
 let t1 := (false, x.2.1, x.2.2.1, x.2.2.2.1, x.2.2.2.2.1, x.2.2.2.2.2.1, x.2.2.2.2.2.2.1, x.2.2.2.2.2.2.2.1, xh)
 bif (x.2.2.1 == (2 : Int)) then
 vmp xh (fun y14 =>
 bif (!y14) then
 k t1
 else
 bif (x.2.2.1 != (2 : Int)) then
 bif (!(vas xh (⟨#[]⟩ : ByteArray))) then
 k t1
 else
 vbr t0 (fun z15 =>
 k (z15.1, z15.2.1, z15.2.2.1, z15.2.2.2.1, z15.2.2.2.2.1, z15.2.2.2.2.2.1, z15.2.2.2.2.2.2.1, z15.2.2.2.2.2.2.2.1, z15.2.2.2.2.2.2.2.2))
 else
 vbr t0 (fun z16 =>
 k (z16.1, z16.2.1, z16.2.2.1, z16.2.2.2.1, z16.2.2.2.2.1, z16.2.2.2.2.2.1, z16.2.2.2.2.2.2.1, z16.2.2.2.2.2.2.2.1, z16.2.2.2.2.2.2.2.2)))
 else
 bif (x.2.2.1 != (2 : Int)) then
 bif (!(vas xh (⟨#[]⟩ : ByteArray))) then
 k t1
 else
 vbr t0 (fun z17 =>
 k (z17.1, z17.2.1, z17.2.2.1, z17.2.2.2.1, z17.2.2.2.2.1, z17.2.2.2.2.2.1, z17.2.2.2.2.2.2.1, z17.2.2.2.2.2.2.2.1, z17.2.2.2.2.2.2.2.2))
 else
 vbr t0 (fun z18 =>
 k (z18.1, z18.2.1, z18.2.2.1, z18.2.2.2.1, z18.2.2.2.2.1, z18.2.2.2.2.2.1, z18.2.2.2.2.2.2.1, z18.2.2.2.2.2.2.2.1, z18.2.2.2.2.2.2.2.2))
instance n86n_jp5000010 (x : q33T) : ParC (vbp x) := by unfold vbp; (try dsimp only); exact ⟨(vam ((n78n_p _).p.bind fun y14 => (vam (vah _) (vam (vam (vah _) ((n86n_jp5000012 _).p.bind fun z15 => (vah _))) ((n86n_jp5000012 _).p.bind fun z16 => (vah _))))) (vam (vam (vah _) ((n86n_jp5000012 _).p.bind fun z17 => (vah _))) ((n86n_jp5000012 _).p.bind fun z18 => (vah _))))⟩
def vjy (x : q36T) (k : q36T ⊕ (q36T ⊕ q36T) → Option Res) : Option Res :=
 let xh := x.2.2.2.2.2.2.2.2
 bif (decide (x.2.1 < (x.2.2.2.2.2.2.1.length : Int))) then
 if 0 ≤ x.2.1 ∧ x.2.1 < (x.2.2.2.2.2.2.1.length : Int) then
 vol (rd (Ty.zero tRange) x.2.2.2.2.2.2.1 x.2.1) (fun y6 =>
 bif (!y6) then
 k (.inr (.inl (false, x.2.1, x.2.2.1, x.2.2.2.1, x.2.2.2.2.1, x.2.2.2.2.2.1, x.2.2.2.2.2.2.1, x.2.2.2.2.2.2.2.1, xh.1, xh.2)))
 else
 k (.inl (x.1, (IntKind.wrap .i64 (x.2.1 + 1)), x.2.2.1, x.2.2.2.1, x.2.2.2.2.1, x.2.2.2.2.2.1, x.2.2.2.2.2.2.1, x.2.2.2.2.2.2.2.1, xh.1, xh.2)))
 else none
 else
 k (.inr (.inr (x.1, x.2.1, x.2.2.1, x.2.2.2.1, x.2.2.2.2.1, x.2.2.2.2.2.1, x.2.2.2.2.2.2.1, x.2.2.2.2.2.2.2.1, xh.1, xh.2)))
instance n86n_bp0 (x : q36T) : ParC (vjy x) := by unfold vjy; (try dsimp only); infer_instance
def vcq (x : q33T) (k : q33T → Option Res) : Option Res :=
 vae vjy Fuel (x.1, 0, x.2.1, x.2.2.1, x.2.2.2.1, x.2.2.2.2.1, x.2.2.2.2.2.1, x.2.2.2.2.2.2.1, x.2.2.2.2.2.2.2.1, x.2.2.2.2.2.2.2.2) (Sum.elim (fun z7 =>
 let z7h := z7.2.2.2.2.2.2.2.2
 k (z7.1, z7.2.2.1, z7.2.2.2.1, z7.2.2.2.2.1, z7.2.2.2.2.2.1, z7.2.2.2.2.2.2.1, z7.2.2.2.2.2.2.2.1, z7h.1, z7h.2)) (fun z8 =>
 let z8h := z8.2.2.2.2.2.2.2.2
 bif (z8.2.2.2.1 == (3 : Int)) then
 vf3 z8.2.2.2.2.2.1 (IntKind.wrap .i64 (z8.2.2.2.2.1 + 1)) (9999 : Int) (fun y9 =>
 bif (!y9) then
 k (false, z8.2.2.1, z8.2.2.2.1, z8.2.2.2.2.1, z8.2.2.2.2.2.1, z8.2.2.2.2.2.2.1, z8.2.2.2.2.2.2.2.1, z8h.1, z8h.2)
 else
 bif (z8.2.2.2.1 != (3 : Int)) then
 bif (z8.2.2.2.2.2.1 != (0 : Int)) then
 k (false, z8.2.2.1, z8.2.2.2.1, z8.2.2.2.2.1, z8.2.2.2.2.2.1, z8.2.2.2.2.2.2.1, z8.2.2.2.2.2.2.2.1, z8h.1, z8h.2)
 else
 vbp (z8.1, z8.2.2.1, z8.2.2.2.1, z8.2.2.2.2.1, z8.2.2.2.2.2.1, z8.2.2.2.2.2.2.1, z8.2.2.2.2.2.2.2.1, z8h.1, z8h.2) (fun z10 =>
 k (z10.1, z10.2.1, z10.2.2.1, z10.2.2.2.1, z10.2.2.2.2.1, z10.2.2.2.2.2.1, z10.2.2.2.2.2.2.1, z10.2.2.2.2.2.2.2.1, z10.2.2.2.2.2.2.2.2))
 else
 vbp (z8.1, z8.2.2.1, z8.2.2.2.1, z8.2.2.2.2.1, z8.2.2.2.2.2.1, z8.2.2.2.2.2.2.1, z8.2.2.2.2.2.2.2.1, z8h.1, z8h.2) (fun z11 =>
 k (z11.1, z11.2.1, z11.2.2.1, z11.2.2.2.1, z11.2.2.2.2.1, z11.2.2.2.2.2.1, z11.2.2.2.2.2.2.1, z11.2.2.2.2.2.2.2.1, z11.2.2.2.2.2.2.2.2)))
 else
 bif (z8.2.2.2.1 != (3 : Int)) then
 bif (z8.2.2.2.2.2.1 != (0 : Int)) then
 k (false, z8.2.2.1, z8.2.2.2.1, z8.2.2.2.2.1, z8.2.2.2.2.2.1, z8.2.2.2.2.2.2.1, z8.2.2.2.2.2.2.2.1, z8h.1, z8h.2)
 else
 vbp (z8.1, z8.2.2.1, z8.2.2.2.1, z8.2.2.2.2.1, z8.2.2.2.2.2.1, z8.2.2.2.2.2.2.1, z8.2.2.2.2.2.2.2.1, z8h.1, z8h.2) (fun z12 =>
 k (z12.1, z12.2.1, z12.2.2.1, z12.2.2.2.1, z12.2.2.2.2.1, z12.2.2.2.2.2.1, z12.2.2.2.2.2.2.1, z12.2.2.2.2.2.2.2.1, z12.2.2.2.2.2.2.2.2))
 else
 vbp (z8.1, z8.2.2.1, z8.2.2.2.1, z8.2.2.2.2.1, z8.2.2.2.2.2.1, z8.2.2.2.2.2.2.1, z8.2.2.2.2.2.2.2.1, z8h.1, z8h.2) (fun z13 =>
 k (z13.1, z13.2.1, z13.2.2.1, z13.2.2.2.1, z13.2.2.2.2.1, z13.2.2.2.2.2.1, z13.2.2.2.2.2.2.1, z13.2.2.2.2.2.2.2.1, z13.2.2.2.2.2.2.2.2))))
instance n86n_jp5000003 (x : q33T) : ParC (vcq x) := by unfold vcq; (try dsimp only); exact ⟨((vid (fun x => (n86n_bp0 x).p) _ _).bind2 (fun z7 => (vah _)) (fun z8 => (vam ((n89n_p _ _ _).p.bind fun y9 => (vam (vah _) (vam (vam (vah _) ((n86n_jp5000010 _).p.bind fun z10 => (vah _))) ((n86n_jp5000010 _).p.bind fun z11 => (vah _))))) (vam (vam (vah _) ((n86n_jp5000010 _).p.bind fun z12 => (vah _))) ((n86n_jp5000010 _).p.bind fun z13 => (vah _))))))⟩
def v78 (a0 : dTxn) (k : Bool → Option Res) : Option Res :=
 vf3 a0.1 (1 : Int) (9999 : Int) (fun y1 =>
 bif (!y1) then
 k false
 else
 vf3 a0.2.1 (1 : Int) (3 : Int) (fun y2 =>
 bif (!y2) then
 k false
 else
 vf3 a0.2.2.1 (0 : Int) (9999 : Int) (fun y3 =>
 bif (!y3) then
 k false
 else
 bif (decide ((a0.2.2.2.2.1.length : Int) > (8 : Int))) then
 k false
 else
 vta a0.2.2.2.2.2.1 (fun y4 =>
 bif (!y4) then
 k false
 else
 vcq (false, a0.1, a0.2.1, a0.2.2.1, a0.2.2.2.1, a0.2.2.2.2.1, a0.2.2.2.2.2.1, a0.2.2.2.2.2.2.1, a0.2.2.2.2.2.2.2) (fun z5 =>
 k z5.1)))))
def vtt := shut v78
theorem wc7 : vtt = v78 := vag _
instance n86n_p (a0 : dTxn) : ParC (vtt a0) := by rw [wc7]; unfold v78; (try dsimp only); exact ⟨((n89n_p _ _ _).p.bind fun y1 => (vam (vah _) ((n89n_p _ _ _).p.bind fun y2 => (vam (vah _) ((n89n_p _ _ _).p.bind fun y3 => (vam (vah _) (vam (vah _) ((n88n_p _).p.bind fun y4 => (vam (vah _) ((n86n_jp5000003 _).p.bind fun z5 => (vah _)))))))))))⟩
def vi9 (x : q34T) (k : q34T ⊕ (q34T ⊕ q35T) → Option Res) : Option Res :=
 let xh := x.2.2.2.2.2.2.2.2
 let xhh := xh.2.2.2.2.2.2.2.2
 let xhhh := xhh.2.2.2.2.2.2.2.2
 bif (decide (x.2.1 < (x.2.2.2.2.2.2.1.length : Int))) then
 if 0 ≤ x.2.1 ∧ x.2.1 < (x.2.2.2.2.2.2.1.length : Int) then
 bif (Ty.eqB tRange (rd (Ty.zero tRange) x.2.2.2.2.2.2.1 x.2.1) (xh.2.2.1, xh.2.2.2.1)) then
 k (.inr (.inr (true, x.2.1, x.2.2.1, x.2.2.2.1, x.2.2.2.2.1, x.2.2.2.2.2.1, x.2.2.2.2.2.2.1, x.2.2.2.2.2.2.2.1, xh.1, xh.2.1, xh.2.2.1, xh.2.2.2.1, xhh.2.2.1, xhh.2.2.2.1, xhh.2.2.2.2.1, xhh.2.2.2.2.2.1, xhh.2.2.2.2.2.2.1, xhh.2.2.2.2.2.2.2.1, xhh.2.2.1, xhh.2.2.2.1, xhh.2.2.2.2.1, xhh.2.2.2.2.2.1, xhh.2.2.2.2.2.2.1, xhh.2.2.2.2.2.2.2.1, xhhh.2.2.1, xhhh.2.2.2)))
 else
 k (.inl (x.1, (IntKind.wrap .i64 (x.2.1 + 1)), x.2.2.1, x.2.2.2.1, x.2.2.2.2.1, x.2.2.2.2.2.1, x.2.2.2.2.2.2.1, x.2.2.2.2.2.2.2.1, xh.1, xh.2.1, xh.2.2.1, xh.2.2.2.1, xh.2.2.2.2.1, xh.2.2.2.2.2.1, xh.2.2.2.2.2.2.1, xh.2.2.2.2.2.2.2.1, xhh.1, xhh.2.1, xhh.2.2.1, xhh.2.2.2.1, xhh.2.2.2.2.1, xhh.2.2.2.2.2.1, xhh.2.2.2.2.2.2.1, xhh.2.2.2.2.2.2.2.1, xhhh.1, xhhh.2.1, xhhh.2.2.1, xhhh.2.2.2))
 else none
 else
 k (.inr (.inl (x.1, x.2.1, x.2.2.1, x.2.2.2.1, x.2.2.2.2.1, x.2.2.2.2.2.1, x.2.2.2.2.2.2.1, x.2.2.2.2.2.2.2.1, xh.1, xh.2.1, xh.2.2.1, xh.2.2.2.1, xh.2.2.2.2.1, xh.2.2.2.2.2.1, xh.2.2.2.2.2.2.1, xh.2.2.2.2.2.2.2.1, xhh.1, xhh.2.1, xhh.2.2.1, xhh.2.2.2.1, xhh.2.2.2.2.1, xhh.2.2.2.2.2.1, xhh.2.2.2.2.2.2.1, xhh.2.2.2.2.2.2.2.1, xhhh.1, xhhh.2.1, xhhh.2.2.1, xhhh.2.2.2)))
instance n83n_bp0 (x : q34T) : ParC (vi9 x) := by unfold vi9; (try dsimp only); infer_instance
def vcx (x : q31T) (k : q32T → Option Res) : Option Res :=
 let xh := x.2.2.2.2.2.2.2.2
 let xhh := xh.2.2.2.2.2.2.2.2
 let xhhh := xhh.2.2.2.2.2.2.2.2
 vae vi9 Fuel (x.1, 0, x.2.1, x.2.2.1, x.2.2.2.1, x.2.2.2.2.1, x.2.2.2.2.2.1, x.2.2.2.2.2.2.1, x.2.2.2.2.2.2.2.1, xh.1, xh.2.1, xh.2.2.1, xh.2.2.2.1, xh.2.2.2.2.1, xh.2.2.2.2.2.1, xh.2.2.2.2.2.2.1, xh.2.2.2.2.2.2.2.1, xhh.1, xhh.2.1, xhh.2.2.1, xhh.2.2.2.1, xhh.2.2.2.2.1, xhh.2.2.2.2.2.1, xhh.2.2.2.2.2.2.1, xhh.2.2.2.2.2.2.2.1, xhhh.1, xhhh.2.1, xhhh.2.2) (Sum.elim (fun z5 =>
 let z5h := z5.2.2.2.2.2.2.2.2
 let z5hh := z5h.2.2.2.2.2.2.2.2
 let z5hhh := z5hh.2.2.2.2.2.2.2.2
 bif (decide ((z5.2.2.2.2.2.2.1.length : Int) ≥ (8 : Int))) then
 k (false, z5.2.2.1, z5.2.2.2.1, z5.2.2.2.2.1, z5.2.2.2.2.2.1, z5.2.2.2.2.2.2.1, z5.2.2.2.2.2.2.2.1, z5h.1, z5h.2.1, z5h.2.2.1, z5h.2.2.2.1, z5hh.2.2.1, z5hh.2.2.2.1, z5hh.2.2.2.2.1, z5hh.2.2.2.2.2.1, z5hh.2.2.2.2.2.2.1, z5hh.2.2.2.2.2.2.2.1, z5hh.2.2.1, z5hh.2.2.2.1, z5hh.2.2.2.2.1, z5hh.2.2.2.2.2.1, z5hh.2.2.2.2.2.2.1, z5hh.2.2.2.2.2.2.2.1, z5hhh.2.2.1, z5hhh.2.2.2)
 else
 if z5hhh.2.2.1.length + [(z5h.2.2.1, z5h.2.2.2.1)].length ≤ VE.maxLen then
 k (true, z5.2.2.1, z5.2.2.2.1, z5.2.2.2.2.1, z5.2.2.2.2.2.1, z5.2.2.2.2.2.2.1, z5.2.2.2.2.2.2.2.1, z5h.1, z5h.2.1, z5h.2.2.1, z5h.2.2.2.1, z5hh.2.2.1, z5hh.2.2.2.1, z5hh.2.2.2.2.1, z5hh.2.2.2.2.2.1, z5hh.2.2.2.2.2.2.1, z5hh.2.2.2.2.2.2.2.1, z5hh.2.2.1, z5hh.2.2.2.1, z5hh.2.2.2.2.1, z5hh.2.2.2.2.2.1, z5hh.2.2.2.2.2.2.1, z5hh.2.2.2.2.2.2.2.1, (z5hhh.2.2.1 ++ [(z5h.2.2.1, z5h.2.2.2.1)]), z5hhh.2.2.2)
 else none) (fun z6 =>
 let z6h := z6.2.2.2.2.2.2.2.2
 let z6hh := z6h.2.2.2.2.2.2.2.2
 let z6hhh := z6hh.2.2.2.2.2.2.2.2
 k (z6.1, z6.2.2.1, z6.2.2.2.1, z6.2.2.2.2.1, z6.2.2.2.2.2.1, z6.2.2.2.2.2.2.1, z6.2.2.2.2.2.2.2.1, z6h.1, z6h.2.1, z6h.2.2.1, z6h.2.2.2.1, z6h.2.2.2.2.1, z6h.2.2.2.2.2.1, z6h.2.2.2.2.2.2.1, z6h.2.2.2.2.2.2.2.1, z6hh.1, z6hh.2.1, z6hh.2.2.1, z6hh.2.2.2.1, z6hh.2.2.2.2.1, z6hh.2.2.2.2.2.1, z6hh.2.2.2.2.2.2.1, z6hh.2.2.2.2.2.2.2.1, z6hhh.1, z6hhh.2)))
instance n83n_jp5000004 (x : q31T) : ParC (vcx x) := by unfold vcx; (try dsimp only); infer_instance
def v6k (a0 : dTxn) (a1 : vab) (k : q49T → Option Res) : Option Res :=
 vqh a0 (fun y1 =>
 vtt a0 (fun y2 =>
 bif (!y2) then
 k (y1.1, y1.2.1, y1.2.2.1, y1.2.2.2.1, y1.2.2.2.2.1, y1.2.2.2.2.2.1, false, y1.2.2.2.2.2.2.1, y1.2.2.2.2.2.2.2)
 else
 bif (a0.2.1 != (1 : Int)) then
 k (y1.1, y1.2.1, y1.2.2.1, y1.2.2.2.1, y1.2.2.2.2.1, y1.2.2.2.2.2.1, false, y1.2.2.2.2.2.2.1, y1.2.2.2.2.2.2.2)
 else
 vol a1 (fun y3 =>
 bif (!y3) then
 k (y1.1, y1.2.1, y1.2.2.1, y1.2.2.2.1, y1.2.2.2.2.1, y1.2.2.2.2.2.1, false, y1.2.2.2.2.2.2.1, y1.2.2.2.2.2.2.2)
 else
 vcx (false, a0.1, a0.2.1, a0.2.2.1, a0.2.2.2.1, a0.2.2.2.2.1, a0.2.2.2.2.2.1, a0.2.2.2.2.2.2.1, a0.2.2.2.2.2.2.2, a1.1, a1.2, 0, 0, 0, 0, false, (⟨#[]⟩ : ByteArray), y1.1, y1.2.1, y1.2.2.1, y1.2.2.2.1, y1.2.2.2.2.1, y1.2.2.2.2.2.1, ([] : List vab), ([] : List vaf), y1.2.2.2.2.2.2.1, y1.2.2.2.2.2.2.2) (fun z4 =>
 let z4h := z4.2.2.2.2.2.2.2.2
 let z4hh := z4h.2.2.2.2.2.2.2.2
 k (z4h.2.2.2.1, z4h.2.2.2.2.1, z4h.2.2.2.2.2.1, z4h.2.2.2.2.2.2.1, z4h.2.2.2.2.2.2.2.1, z4hh.1, z4.1, z4hh.2.2.2.2.2.2.2.1, z4hh.2.2.2.2.2.2.2.2)))))
def vw9 := shut v6k
theorem wed : vw9 = v6k := vag _
instance n83n_p (a0 : dTxn) (a1 : vab) : ParC (vw9 a0 a1) := by rw [wed]; unfold v6k; (try dsimp only); infer_instance
def v8e (a0 : vab) (a1 : ByteArray) (k : Bool → Option Res) : Option Res :=
 bif (!(vaj a1 a0.1)) then
 k ((vaj a1 a0.2) || (vas a1 a0.2))
 else
 k false
def vwk := shut v8e
theorem wgx : vwk = v8e := vag _
instance n77n_p (a0 : vab) (a1 : ByteArray) : ParC (vwk a0 a1) := by rw [wgx]; unfold v8e; (try dsimp only); infer_instance
def vkw (x : q16T) (k : q16T ⊕ q16T → Option Res) : Option Res :=
 bif (decide (x.2.2.2.1 < (x.2.2.2.2.2.2.1.length : Int))) then
 if 0 ≤ x.2.2.2.1 ∧ x.2.2.2.1 < (x.2.2.2.2.2.2.1.length : Int) then
 bif (vaj (x.2.2.2.2.2.2.1.getD x.2.2.2.1.toNat (Ty.zero .str)) x.2.2.1) then
 if 0 ≤ x.2.2.2.1 ∧ x.2.2.2.1 < (x.2.2.2.2.2.2.1.length : Int) then
 if x.2.2.2.2.2.2.2.length + [(x.2.2.2.2.2.2.1.getD x.2.2.2.1.toNat (Ty.zero .str))].length ≤ VE.maxLen then
 k (.inl (x.1, x.2.1, x.2.2.1, (IntKind.wrap .i64 (x.2.2.2.1 + (1 : Int))), x.2.2.2.2.1, x.2.2.2.2.2.1, x.2.2.2.2.2.2.1, (x.2.2.2.2.2.2.2 ++ [(x.2.2.2.2.2.2.1.getD x.2.2.2.1.toNat (Ty.zero .str))])))
 else none
 else none
 else
 k (.inl (x.1, x.2.1, x.2.2.1, (IntKind.wrap .i64 (x.2.2.2.1 + 1)), x.2.2.2.2.1, x.2.2.2.2.2.1, x.2.2.2.2.2.2.1, x.2.2.2.2.2.2.2))
 else none
 else
 k (.inr (x.1, x.2.1, x.2.2.1, x.2.2.2.1, x.2.2.2.2.1, x.2.2.2.2.2.1, x.2.2.2.2.2.2.1, x.2.2.2.2.2.2.2))
instance n91n_bp2 (x : q16T) : ParC (vkw x) := by unfold vkw; (try dsimp only); infer_instance
def vi5 (x : q16T) (k : q16T ⊕ q16T → Option Res) : Option Res :=
 bif (decide (x.2.2.2.1 < (x.2.2.2.2.2.2.1.length : Int))) then
 if 0 ≤ x.2.2.2.1 ∧ x.2.2.2.1 < (x.2.2.2.2.2.2.1.length : Int) then
 bif (!((vaj (x.2.2.2.2.2.2.1.getD x.2.2.2.1.toNat (Ty.zero .str)) x.2.2.1) || (vas (x.2.2.2.2.2.2.1.getD x.2.2.2.1.toNat (Ty.zero .str)) x.2.2.1))) then
 if 0 ≤ x.2.2.2.1 ∧ x.2.2.2.1 < (x.2.2.2.2.2.2.1.length : Int) then
 if x.2.2.2.2.2.2.2.length + [(x.2.2.2.2.2.2.1.getD x.2.2.2.1.toNat (Ty.zero .str))].length ≤ VE.maxLen then
 k (.inl (x.1, x.2.1, x.2.2.1, (IntKind.wrap .i64 (x.2.2.2.1 + (1 : Int))), x.2.2.2.2.1, x.2.2.2.2.2.1, x.2.2.2.2.2.2.1, (x.2.2.2.2.2.2.2 ++ [(x.2.2.2.2.2.2.1.getD x.2.2.2.1.toNat (Ty.zero .str))])))
 else none
 else none
 else
 k (.inl (x.1, x.2.1, x.2.2.1, (IntKind.wrap .i64 (x.2.2.2.1 + 1)), x.2.2.2.2.1, x.2.2.2.2.2.1, x.2.2.2.2.2.2.1, x.2.2.2.2.2.2.2))
 else none
 else
 k (.inr (x.1, x.2.1, x.2.2.1, x.2.2.2.1, x.2.2.2.2.1, x.2.2.2.2.2.1, x.2.2.2.2.2.2.1, x.2.2.2.2.2.2.2))
instance n91n_bp4 (x : q16T) : ParC (vi5 x) := by unfold vi5; (try dsimp only); infer_instance
def vjm (x : q15T) (k : q15T ⊕ q15T → Option Res) : Option Res :=
 bif (decide (x.2.1 < (x.1.length : Int))) then
 if 0 ≤ x.2.1 ∧ x.2.1 < (x.1.length : Int) then
 vwk (x.2.2.1, x.2.2.2.1) ((rd (Ty.zero tVersion) x.1 x.2.1).1) (fun y2 =>
 bif (!y2) then
 k (.inl (x.1, (IntKind.wrap .i64 (x.2.1 + 1)), x.2.2.1, x.2.2.2.1, x.2.2.2.2))
 else
 vae vkw Fuel (x.1, x.2.1, (rd (Ty.zero tVersion) x.1 x.2.1).1, 0, x.2.2.1, x.2.2.2.1, x.2.2.2.2, ([] : List ByteArray)) (fun z3 =>
 if z3.2.2.2.2.2.2.2.length + [z3.2.2.1].length ≤ VE.maxLen then
 vae vi5 Fuel (z3.1, z3.2.1, z3.2.2.1, 0, z3.2.2.2.2.1, z3.2.2.2.2.2.1, z3.2.2.2.2.2.2.1, (z3.2.2.2.2.2.2.2 ++ [z3.2.2.1])) (fun z4 =>
 k (.inl (z4.1, (IntKind.wrap .i64 (z4.2.1 + 1)), z4.2.2.2.2.1, z4.2.2.2.2.2.1, z4.2.2.2.2.2.2.2)))
 else none))
 else none
 else
 k (.inr (x.1, x.2.1, x.2.2.1, x.2.2.2.1, x.2.2.2.2))
instance n91n_bp0 (x : q15T) : ParC (vjm x) := by unfold vjm; (try dsimp only); infer_instance
def v7j (a0 : (List vaa)) (a1 : vab) (k : (List ByteArray) → Option Res) : Option Res :=
 vae vjm Fuel (a0, 0, a1.1, a1.2, ([] : List ByteArray)) (fun z1 =>
 k z1.2.2.2.2)
def vyj := shut v7j
theorem wg6 : vyj = v7j := vag _
instance n91n_p (a0 : (List vaa)) (a1 : vab) : ParC (vyj a0 a1) := by rw [wg6]; unfold v7j; (try dsimp only); infer_instance
def vjr (x : q13T) (k : q13T ⊕ q13T → Option Res) : Option Res :=
 let t0 := (IntKind.wrap .i64 (x.2.2.2.2 + (1 : Int)))
 bif (decide (x.2.2.2.2 < (x.1.length : Int))) then
 if 0 ≤ x.2.2.2.2 ∧ x.2.2.2.2 < (x.1.length : Int) then
 bif (vas ((rd (Ty.zero tVersion) x.1 x.2.2.2.2).1) x.2.1) then
 if 0 ≤ x.2.2.2.2 ∧ x.2.2.2.2 < (x.1.length : Int) then
 bif (decide ((rd (Ty.zero tVersion) x.1 x.2.2.2.2).2.2.2 ≤ x.2.2.1)) then
 bif (decide (x.2.2.2.1 < 0)) then
 k (.inl (x.1, x.2.1, x.2.2.1, x.2.2.2.2, t0))
 else
 if 0 ≤ x.2.2.2.2 ∧ x.2.2.2.2 < (x.1.length : Int) then
 if 0 ≤ x.2.2.2.1 ∧ x.2.2.2.1 < (x.1.length : Int) then
 bif (decide ((rd (Ty.zero tVersion) x.1 x.2.2.2.2).2.2.2 > (rd (Ty.zero tVersion) x.1 x.2.2.2.1).2.2.2)) then
 k (.inl (x.1, x.2.1, x.2.2.1, x.2.2.2.2, t0))
 else
 k (.inl (x.1, x.2.1, x.2.2.1, x.2.2.2.1, t0))
 else none
 else none
 else
 k (.inl (x.1, x.2.1, x.2.2.1, x.2.2.2.1, t0))
 else none
 else
 k (.inl (x.1, x.2.1, x.2.2.1, x.2.2.2.1, t0))
 else none
 else
 k (.inr (x.1, x.2.1, x.2.2.1, x.2.2.2.1, x.2.2.2.2))
instance n90n_bp0 (x : q13T) : ParC (vjr x) := by unfold vjr; (try dsimp only); infer_instance
def v7t (a0 : (List vaa)) (a1 : ByteArray) (a2 : Int) (k : Int → Option Res) : Option Res :=
 vae vjr Fuel (a0, a1, a2, (-1 : Int), 0) (fun z1 =>
 k z1.2.2.2.1)
def vyk := shut v7t
theorem weh : vyk = v7t := vag _
instance n90n_p (a0 : (List vaa)) (a1 : ByteArray) (a2 : Int) : ParC (vyk a0 a1 a2) := by rw [weh]; unfold v7t; (try dsimp only); infer_instance
def v91 (a0 : (List vaa)) (a1 : ByteArray) (a2 : Int) (k : (ByteArray × Bool) → Option Res) : Option Res :=
 vyk a0 a1 a2 (fun y1 =>
 bif (decide (y1 < 0)) then
 k ((⟨#[]⟩ : ByteArray), false)
 else
 if 0 ≤ y1 ∧ y1 < (a0.length : Int) then
 bif (rd (Ty.zero tVersion) a0 y1).2.2.1 then
 k ((⟨#[]⟩ : ByteArray), false)
 else
 if 0 ≤ y1 ∧ y1 < (a0.length : Int) then
 k ((rd (Ty.zero tVersion) a0 y1).2.1, true)
 else none
 else none)
def vxs := shut v91
theorem wfu : vxs = v91 := vag _
instance n85n_p (a0 : (List vaa)) (a1 : ByteArray) (a2 : Int) : ParC (vxs a0 a1 a2) := by rw [wfu]; unfold v91; (try dsimp only); infer_instance
def vj8 (x : q11T) (k : q11T ⊕ (q11T ⊕ q11T) → Option Res) : Option Res :=
 let xh := x.2.2.2.2.2.2.2.2
 let t0 := (rd (Ty.zero tWrite) xh.2.2.1 x.2.2.2.2.1)
 bif (decide (x.2.2.2.2.1 < (xh.2.2.1.length : Int))) then
 if 0 ≤ x.2.2.2.2.1 ∧ x.2.2.2.2.1 < (xh.2.2.1.length : Int) then
 bif (vas (t0.1) x.2.1) then
 if 0 ≤ x.2.2.2.2.1 ∧ x.2.2.2.2.1 < (xh.2.2.1.length : Int) then
 bif t0.2.2 then
 k (.inr (.inl (x.1, x.2.1, (⟨#[]⟩ : ByteArray), false, x.2.2.2.2.1, x.2.2.2.2.2.1, x.2.2.2.2.2.2.1, x.2.2.2.2.2.2.2.1, xh.1, xh.2.1, xh.2.2.1, xh.2.2.2.1, xh.2.2.2.2)))
 else
 if 0 ≤ x.2.2.2.2.1 ∧ x.2.2.2.2.1 < (xh.2.2.1.length : Int) then
 k (.inr (.inl (x.1, x.2.1, t0.2.1, true, x.2.2.2.2.1, x.2.2.2.2.2.1, x.2.2.2.2.2.2.1, x.2.2.2.2.2.2.2.1, xh.1, xh.2.1, xh.2.2.1, xh.2.2.2.1, xh.2.2.2.2)))
 else none
 else none
 else
 k (.inl (x.1, x.2.1, x.2.2.1, x.2.2.2.1, (IntKind.wrap .i64 (x.2.2.2.2.1 + 1)), x.2.2.2.2.2.1, x.2.2.2.2.2.2.1, x.2.2.2.2.2.2.2.1, xh.1, xh.2.1, xh.2.2.1, xh.2.2.2.1, xh.2.2.2.2))
 else none
 else
 k (.inr (.inr (x.1, x.2.1, x.2.2.1, x.2.2.2.1, x.2.2.2.2.1, x.2.2.2.2.2.1, x.2.2.2.2.2.2.1, x.2.2.2.2.2.2.2.1, xh.1, xh.2.1, xh.2.2.1, xh.2.2.2.1, xh.2.2.2.2)))
instance n80n_bp0 (x : q11T) : ParC (vj8 x) := by unfold vj8; (try dsimp only); infer_instance
def v9r (a0 : dTxn) (a1 : (List vaa)) (a2 : ByteArray) (k : (ByteArray × Bool) → Option Res) : Option Res :=
 vae vj8 Fuel (a1, a2, (⟨#[]⟩ : ByteArray), false, 0, a0.1, a0.2.1, a0.2.2.1, a0.2.2.2.1, a0.2.2.2.2.1, a0.2.2.2.2.2.1, a0.2.2.2.2.2.2.1, a0.2.2.2.2.2.2.2) (Sum.elim (fun z1 =>
 k (z1.2.2.1, z1.2.2.2.1)) (fun z2 =>
 vxs z2.1 z2.2.1 z2.2.2.2.2.2.2.2.1 (fun y3 =>
 k (y3.1, y3.2))))
def vtf := shut v9r
theorem whh : vtf = v9r := vag _
instance n80n_p (a0 : dTxn) (a1 : (List vaa)) (a2 : ByteArray) : ParC (vtf a0 a1 a2) := by rw [whh]; unfold v9r; (try dsimp only); infer_instance
def vjk (x : q19T) (k : q19T ⊕ q19T → Option Res) : Option Res :=
 let xh := x.2.2.2.2.2.2.2.2
 bif (decide (x.2.1 < (x.2.2.2.2.2.2.2.1.length : Int))) then
 if 0 ≤ x.2.1 ∧ x.2.1 < (x.2.2.2.2.2.2.2.1.length : Int) then
 if xh.2.2.2.2.length + [((rd (Ty.zero tWrite) x.2.2.2.2.2.2.2.1 x.2.1).1, ((⟨#[]⟩ : ByteArray), (false, (0 : Int))))].length ≤ VE.maxLen then
 k (.inl (x.1, (IntKind.wrap .i64 (x.2.1 + (1 : Int))), x.2.2.1, x.2.2.2.1, x.2.2.2.2.1, x.2.2.2.2.2.1, x.2.2.2.2.2.2.1, x.2.2.2.2.2.2.2.1, xh.1, xh.2.1, xh.2.2.1, xh.2.2.2.1, (xh.2.2.2.2 ++ [((rd (Ty.zero tWrite) x.2.2.2.2.2.2.2.1 x.2.1).1, ((⟨#[]⟩ : ByteArray), (false, (0 : Int))))])))
 else none
 else none
 else
 k (.inr (x.1, x.2.1, x.2.2.1, x.2.2.2.1, x.2.2.2.2.1, x.2.2.2.2.2.1, x.2.2.2.2.2.2.1, x.2.2.2.2.2.2.2.1, xh.1, xh.2.1, xh.2.2.1, xh.2.2.2.1, xh.2.2.2.2))
instance n81n_bp0 (x : q19T) : ParC (vjk x) := by unfold vjk; (try dsimp only); infer_instance
def vh3 (x : q18T) (k : q18T ⊕ q18T → Option Res) : Option Res :=
 let xh := x.2.2.2.2.2.2.2.2
 let t0 := (xh.2.2.2.getD x.2.1.toNat (Ty.zero .str))
 bif (decide (x.2.1 < (xh.2.2.2.length : Int))) then
 if 0 ≤ x.2.1 ∧ x.2.1 < (xh.2.2.2.length : Int) then
 vtf (x.2.2.1, (x.2.2.2.1, (x.2.2.2.2.1, (x.2.2.2.2.2.1, (x.2.2.2.2.2.2.1, (x.2.2.2.2.2.2.2.1, (xh.1, xh.2.1))))))) x.1 t0 (fun y4 =>
 bif y4.2 then
 if 0 ≤ x.2.1 ∧ x.2.1 < (xh.2.2.2.length : Int) then
 if xh.2.2.1.length + [(t0, y4.1)].length ≤ VE.maxLen then
 k (.inl (x.1, (IntKind.wrap .i64 (x.2.1 + (1 : Int))), x.2.2.1, x.2.2.2.1, x.2.2.2.2.1, x.2.2.2.2.2.1, x.2.2.2.2.2.2.1, x.2.2.2.2.2.2.2.1, xh.1, xh.2.1, (xh.2.2.1 ++ [(t0, y4.1)]), xh.2.2.2))
 else none
 else none
 else
 k (.inl (x.1, (IntKind.wrap .i64 (x.2.1 + 1)), x.2.2.1, x.2.2.2.1, x.2.2.2.2.1, x.2.2.2.2.2.1, x.2.2.2.2.2.2.1, x.2.2.2.2.2.2.2.1, xh.1, xh.2.1, xh.2.2.1, xh.2.2.2)))
 else none
 else
 k (.inr (x.1, x.2.1, x.2.2.1, x.2.2.2.1, x.2.2.2.2.1, x.2.2.2.2.2.1, x.2.2.2.2.2.2.1, x.2.2.2.2.2.2.2.1, xh.1, xh.2.1, xh.2.2.1, xh.2.2.2))
instance n81n_bp2 (x : q18T) : ParC (vh3 x) := by unfold vh3; (try dsimp only); infer_instance
def v9m (a0 : dTxn) (a1 : (List vaa)) (a2 : vab) (k : (List vab) → Option Res) : Option Res :=
 if ([] : List vaa).length + a1.length ≤ VE.maxLen then
 vae vjk Fuel (a1, 0, a0.1, a0.2.1, a0.2.2.1, a0.2.2.2.1, a0.2.2.2.2.1, a0.2.2.2.2.2.1, a0.2.2.2.2.2.2.1, a0.2.2.2.2.2.2.2, a2.1, a2.2, (([] : List vaa) ++ a1)) (fun z1 =>
 let z1h := z1.2.2.2.2.2.2.2.2
 vyj z1h.2.2.2.2 (z1h.2.2.1, z1h.2.2.2.1) (fun y2 =>
 vae vh3 Fuel (z1.1, 0, z1.2.2.1, z1.2.2.2.1, z1.2.2.2.2.1, z1.2.2.2.2.2.1, z1.2.2.2.2.2.2.1, z1.2.2.2.2.2.2.2.1, z1h.1, z1h.2.1, ([] : List vab), y2) (fun z3 =>
 k z3.2.2.2.2.2.2.2.2.2.2.1)))
 else none
def vxk := shut v9m
theorem wge : vxk = v9m := vag _
instance n81n_p (a0 : dTxn) (a1 : (List vaa)) (a2 : vab) : ParC (vxk a0 a1 a2) := by rw [wge]; unfold v9m; (try dsimp only); infer_instance
def v7s (a0 : vbb) (a1 : Int) (a2 : vab) (k : q45T → Option Res) : Option Res :=
 v17 a0 (fun y1 =>
 vys a0 a1 (fun y2 =>
 bif (decide (y2 < 0)) then
 k (y1.1, y1.2.1, 1, y1.2.2.1, y1.2.2.2.1, y1.2.2.2.2.1, y1.2.2.2.2.2, ([] : List vab))
 else
 vol a2 (fun y3 =>
 bif (!y3) then
 k (y1.1, y1.2.1, 2, y1.2.2.1, y1.2.2.2.1, y1.2.2.2.2.1, y1.2.2.2.2.2, ([] : List vab))
 else
 if 0 ≤ y2 ∧ y2 < (a0.2.length : Int) then
 vw9 (rd (Ty.zero tTxn) a0.2 y2) a2 (fun y4 =>
 let y4h := y4.2.2.2.2.2.2.2.2
 bif (!y4.2.2.2.2.2.2.1) then
 k (y1.1, y1.2.1, 3, y1.2.2.1, y1.2.2.2.1, y1.2.2.2.2.1, y1.2.2.2.2.2, ([] : List vab))
 else
 if 0 ≤ y2 ∧ y2 < (y1.2.2.2.2.2.length : Int) then
 vxk (y4.1, (y4.2.1, (y4.2.2.1, (y4.2.2.2.1, (y4.2.2.2.2.2.2.2.1, (y4h, (y4.2.2.2.2.1, y4.2.2.2.2.2.1))))))) a0.1.1 a2 (fun y5 =>
 k (y1.1, y1.2.1, 0, y1.2.2.1, y1.2.2.2.1, y1.2.2.2.2.1, (y1.2.2.2.2.2.set y2.toNat (y4.1, (y4.2.1, (y4.2.2.1, (y4.2.2.2.1, (y4.2.2.2.2.2.2.2.1, (y4h, (y4.2.2.2.2.1, y4.2.2.2.2.2.1)))))))), y5))
 else none)
 else none)))
def vxg := shut v7s
theorem whl : vxg = v7s := vag _
instance n84n_p (a0 : vbb) (a1 : Int) (a2 : vab) : ParC (vxg a0 a1 a2) := by rw [whl]; unfold v7s; (try dsimp only); exact ⟨((n95n_p _).p.bind fun y1 => ((n79n_p _ _).p.bind fun y2 => (vam (vah _) ((n82n_p _).p.bind fun y3 => (vam (vah _) (vfn ((n83n_p _ _).p.bind fun y4 => (vam (vah _) (vfn ((n81n_p _ _ _).p.bind fun y5 => (vah _)) vc8))) vc8))))))⟩
def v7x (a0 : Int) (a1 : Int) (a2 : Int) (k : Bool → Option Res) : Option Res :=
 bif (decide (a0 ≥ a1)) then
 k (decide (a0 ≤ a2))
 else
 k false
def vf2 := shut v7x
theorem whj : vf2 = v7x := vag _
instance n22n_p (a0 : Int) (a1 : Int) (a2 : Int) : ParC (vf2 a0 a1 a2) := by rw [whj]; unfold v7x; (try dsimp only); infer_instance
def vk6 (x : (ByteArray × Bool × Int)) (k : (ByteArray × Bool × Int) ⊕ ((ByteArray × Bool × Int) ⊕ (ByteArray × Bool × Int)) → Option Res) : Option Res :=
 bif (decide (x.2.2 < (x.1.size : Int))) then
 if 0 ≤ x.2.2 ∧ x.2.2 < (x.1.size : Int) then
 bif (decide ((bt x.1 x.2.2) < (97 : Int))) then
 k (.inr (.inl (x.1, false, x.2.2)))
 else
 if 0 ≤ x.2.2 ∧ x.2.2 < (x.1.size : Int) then
 bif (decide ((bt x.1 x.2.2) > (122 : Int))) then
 k (.inr (.inl (x.1, false, x.2.2)))
 else
 k (.inl (x.1, x.2.1, (IntKind.wrap .i64 (x.2.2 + 1))))
 else none
 else none
 else
 k (.inr (.inr (x.1, x.2.1, x.2.2)))
instance n01n_bp0 (x : (ByteArray × Bool × Int)) : ParC (vk6 x) := by unfold vk6; (try dsimp only); infer_instance
def v6m (a0 : ByteArray) (k : Bool → Option Res) : Option Res :=
 vae vk6 Fuel (a0, false, 0) (Sum.elim (fun z1 =>
 k z1.2.1) (fun z2 =>
 vf2 (z2.1.size : Int) (1 : Int) (3 : Int) (fun y3 =>
 k y3)))
def vmo := shut v6m
theorem wcu : vmo = v6m := vag _
instance n01n_p (a0 : ByteArray) : ParC (vmo a0) := by rw [wcu]; unfold v6m; (try dsimp only); infer_instance
def v7b (a0 : vab) (k : Bool → Option Res) : Option Res :=
 vmo a0.1 (fun y1 =>
 bif y1 then
 vmo a0.2 (fun y2 =>
 bif y2 then
 k ((vaj a0.1 a0.2) || (vas a0.1 a0.2))
 else
 k false)
 else
 k false)
def vou := shut v7b
theorem we8 : vou = v7b := vag _
instance n06n_p (a0 : vab) : ParC (vou a0) := by rw [we8]; unfold v7b; (try dsimp only); infer_instance
def v8o (a0 : dTxn) (k : q48T → Option Res) : Option Res :=
 if a0.2.2.2.2.1.length ≤ VE.maxLen then
 if a0.2.2.2.2.2.1.length ≤ VE.maxLen then
 k (a0.1, a0.2.1, a0.2.2.1, a0.2.2.2.1, a0.2.2.2.2.2.2.1, a0.2.2.2.2.2.2.2, a0.2.2.2.2.1, a0.2.2.2.2.2.1)
 else none
 else none
def vp9 := shut v8o
theorem wga : vp9 = v8o := vag _
instance n15n_p (a0 : dTxn) : ParC (vp9 a0) := by rw [wga]; unfold v8o; (try dsimp only); infer_instance
def vjf (x : q6T) (k : q6T ⊕ q6T → Option Res) : Option Res :=
 bif (decide (x.2.2.1 < x.2.1)) then
 if 0 ≤ x.2.2.1 ∧ x.2.2.1 < (x.1.length : Int) then
 vp9 (rd (Ty.zero tTxn) x.1 x.2.2.1) (fun y2 =>
 if x.2.2.2.length + [(y2.1, (y2.2.1, (y2.2.2.1, (y2.2.2.2.1, (y2.2.2.2.2.2.2.1, (y2.2.2.2.2.2.2.2, (y2.2.2.2.2.1, y2.2.2.2.2.2.1)))))))].length ≤ VE.maxLen then
 k (.inl (x.1, x.2.1, (IntKind.wrap .i64 (x.2.2.1 + (1 : Int))), (x.2.2.2 ++ [(y2.1, (y2.2.1, (y2.2.2.1, (y2.2.2.2.1, (y2.2.2.2.2.2.2.1, (y2.2.2.2.2.2.2.2, (y2.2.2.2.2.1, y2.2.2.2.2.2.1)))))))])))
 else none)
 else none
 else
 k (.inr (x.1, x.2.1, x.2.2.1, x.2.2.2))
instance n16n_bp0 (x : q6T) : ParC (vjf x) := by unfold vjf; (try dsimp only); infer_instance
def v9p (a0 : (List dTxn)) (k : (List dTxn) → Option Res) : Option Res :=
 vae vjf Fuel (a0, (a0.length : Int), 0, ([] : List dTxn)) (fun z1 =>
 k z1.2.2.2)
def vpz := shut v9p
theorem wfe : vpz = v9p := vag _
instance n16n_p (a0 : (List dTxn)) : ParC (vpz a0) := by rw [wfe]; unfold v9p; (try dsimp only); infer_instance
def v6y (a0 : vmb) (k : q44T → Option Res) : Option Res :=
 if a0.1.length ≤ VE.maxLen then
 vpz a0.2.1 (fun y1 =>
 vpz a0.2.2.1 (fun y2 =>
 k (a0.2.2.2.1, a0.2.2.2.2, a0.1, y1, y2)))
 else none
def v6i := shut v6y
theorem wck : v6i = v6y := vag _
instance n13n_p (a0 : vmb) : ParC (v6i a0) := by rw [wck]; unfold v6y; (try dsimp only); infer_instance
def v8u (a0 : vbb) (k : q43T → Option Res) : Option Res :=
 v6i a0.1 (fun y1 =>
 vpz a0.2 (fun y2 =>
 k (y1.1, y1.2.1, y1.2.2.1, y1.2.2.2.1, y1.2.2.2.2, y2)))
def v1e := shut v8u
theorem wft : v1e = v8u := vag _
instance n14n_p (a0 : vbb) : ParC (v1e a0) := by rw [wft]; unfold v8u; (try dsimp only); infer_instance
def weu (a0 : dTxn) (a1 : Int) (k : (Bool × Int) → Option Res) : Option Res :=
 k ((a0.1 == a1), a1)
def vw4 := shut weu
theorem wha : vw4 = weu := vag _
instance n03n_p (a0 : dTxn) (a1 : Int) : ParC (vw4 a0 a1) := by rw [wha]; unfold weu; (try dsimp only); infer_instance
def vjc (x : q7T) (k : q7T ⊕ (q7T ⊕ q7T) → Option Res) : Option Res :=
 bif (decide (x.2.2.2.1 < x.2.2.1)) then
 if 0 ≤ x.2.2.2.1 ∧ x.2.2.2.1 < (x.1.length : Int) then
 vw4 (rd (Ty.zero tTxn) x.1 x.2.2.2.1) x.2.2.2.2 (fun y3 =>
 bif y3.1 then
 k (.inr (.inl (x.1, x.2.2.2.1, x.2.2.1, x.2.2.2.1, y3.2)))
 else
 k (.inl (x.1, x.2.1, x.2.2.1, (IntKind.wrap .i64 (x.2.2.2.1 + 1)), y3.2)))
 else none
 else
 k (.inr (.inr (x.1, x.2.1, x.2.2.1, x.2.2.2.1, x.2.2.2.2)))
instance n73n_bp0 (x : q7T) : ParC (vjc x) := by unfold vjc; (try dsimp only); infer_instance
def v8b (a0 : (List dTxn)) (a1 : Int) (k : (Int × Int) → Option Res) : Option Res :=
 vae vjc Fuel (a0, 0, (a0.length : Int), 0, a1) (Sum.elim (fun z1 =>
 k (z1.2.1, z1.2.2.2.2)) (fun z2 =>
 k ((-1 : Int), z2.2.2.2.2)))
def v1x := shut v8b
theorem wc4 : v1x = v8b := vag _
instance n73n_p (a0 : (List dTxn)) (a1 : Int) : ParC (v1x a0 a1) := by rw [wc4]; unfold v8b; (try dsimp only); infer_instance
def v76 (a0 : vbb) (a1 : Int) (k : Int → Option Res) : Option Res :=
 v1x a0.2 a1 (fun y1 =>
 k y1.1)
def v18 := shut v76
theorem wgg : v18 = v76 := vag _
instance n02n_p (a0 : vbb) (a1 : Int) : ParC (v18 a0 a1) := by rw [wgg]; unfold v76; (try dsimp only); infer_instance
def v7i (a0 : vaf) (k : Bool → Option Res) : Option Res :=
 vmo a0.1 (fun y1 =>
 bif y1 then
 bif (decide ((a0.2.1.size : Int) ≤ (12 : Int))) then
 bif (!a0.2.2) then
 k true
 else
 k (vas a0.2.1 (⟨#[]⟩ : ByteArray))
 else
 k false
 else
 k false)
def vwb := shut v7i
theorem whk : vwb = v7i := vag _
instance n11n_p (a0 : vaf) : ParC (vwb a0) := by rw [whk]; unfold v7i; (try dsimp only); infer_instance
def vlc (x : q23T) (k : q23T ⊕ (q23T ⊕ q23T) → Option Res) : Option Res :=
 bif (decide (x.2.2.2.2 < x.2.2.2.1)) then
 if 0 ≤ x.2.2.2.2 ∧ x.2.2.2.2 < (x.2.2.1.length : Int) then
 vwb (rd (Ty.zero tWrite) x.2.2.1 x.2.2.2.2) (fun y3 =>
 bif (!y3) then
 k (.inr (.inl (x.1, false, x.2.2.1, x.2.2.2.1, x.2.2.2.2)))
 else
 bif (decide (x.2.2.2.2 > 0)) then
 if 0 ≤ (IntKind.wrap .i64 (x.2.2.2.2 - 1)) ∧ (IntKind.wrap .i64 (x.2.2.2.2 - 1)) < (x.1.length : Int) then
 bif (!(vaj ((rd (Ty.zero tWrite) x.1 (IntKind.wrap .i64 (x.2.2.2.2 - 1))).1) ((rd (Ty.zero tWrite) x.2.2.1 x.2.2.2.2).1))) then
 k (.inr (.inl (x.1, false, x.2.2.1, x.2.2.2.1, x.2.2.2.2)))
 else
 k (.inl (x.1, x.2.1, x.2.2.1, x.2.2.2.1, (IntKind.wrap .i64 (x.2.2.2.2 + 1))))
 else none
 else
 k (.inl (x.1, x.2.1, x.2.2.1, x.2.2.2.1, (IntKind.wrap .i64 (x.2.2.2.2 + 1)))))
 else none
 else
 k (.inr (.inr (x.1, x.2.1, x.2.2.1, x.2.2.2.1, x.2.2.2.2)))
instance n12n_bp0 (x : q23T) : ParC (vlc x) := by unfold vlc; (try dsimp only); infer_instance
def v7q (a0 : (List vaf)) (k : Bool → Option Res) : Option Res :=
 vae vlc Fuel (a0, false, a0, (a0.length : Int), 0) (Sum.elim (fun z1 =>
 k z1.2.1) (fun z2 =>
 k (decide ((z2.1.length : Int) ≤ (8 : Int)))))
def vsr := shut v7q
theorem wdt : vsr = v7q := vag _
instance n12n_p (a0 : (List vaf)) : ParC (vsr a0) := by rw [wdt]; unfold v7q; (try dsimp only); infer_instance
def vbq (x : q33T) (k : q33T → Option Res) : Option Res :=
 let xh := x.2.2.2.2.2.2.2.2
 bif (x.2.2.1 == (2 : Int)) then
 vmo xh (fun y15 =>
 bif y15 then
 k (true, x.2.1, x.2.2.1, x.2.2.2.1, x.2.2.2.2.1, x.2.2.2.2.2.1, x.2.2.2.2.2.2.1, x.2.2.2.2.2.2.2.1, xh)
 else
 bif (x.2.2.1 != (2 : Int)) then
 k ((vas xh (⟨#[]⟩ : ByteArray)), x.2.1, x.2.2.1, x.2.2.2.1, x.2.2.2.2.1, x.2.2.2.2.2.1, x.2.2.2.2.2.2.1, x.2.2.2.2.2.2.2.1, xh)
 else
 k (false, x.2.1, x.2.2.1, x.2.2.2.1, x.2.2.2.2.1, x.2.2.2.2.2.1, x.2.2.2.2.2.2.1, x.2.2.2.2.2.2.2.1, xh))
 else
 bif (x.2.2.1 != (2 : Int)) then
 k ((vas xh (⟨#[]⟩ : ByteArray)), x.2.1, x.2.2.1, x.2.2.2.1, x.2.2.2.2.1, x.2.2.2.2.2.1, x.2.2.2.2.2.2.1, x.2.2.2.2.2.2.2.1, xh)
 else
 k (false, x.2.1, x.2.2.1, x.2.2.2.1, x.2.2.2.2.1, x.2.2.2.2.2.1, x.2.2.2.2.2.2.1, x.2.2.2.2.2.2.2.1, xh)
instance n10n_jp5000011 (x : q33T) : ParC (vbq x) := by unfold vbq; (try dsimp only); infer_instance
def vcb (x : q33T) (k : q33T → Option Res) : Option Res :=
 let xh := x.2.2.2.2.2.2.2.2
 let t0 := (x.1, x.2.1, x.2.2.1, x.2.2.2.1, x.2.2.2.2.1, x.2.2.2.2.2.1, x.2.2.2.2.2.2.1, x.2.2.2.2.2.2.2.1, xh)
 let t1 := (false, x.2.1, x.2.2.1, x.2.2.2.1, x.2.2.2.2.1, x.2.2.2.2.2.1, x.2.2.2.2.2.2.1, x.2.2.2.2.2.2.2.1, xh)
 bif (x.2.2.1 == (3 : Int)) then
 vf2 x.2.2.2.2.1 (IntKind.wrap .i64 (x.2.2.2.1 + 1)) (9999 : Int) (fun y10 =>
 bif (!y10) then
 k t1
 else
 bif (x.2.2.1 != (3 : Int)) then
 bif (x.2.2.2.2.1 != (0 : Int)) then
 k t1
 else
 vbq t0 (fun z11 =>
 k (z11.1, z11.2.1, z11.2.2.1, z11.2.2.2.1, z11.2.2.2.2.1, z11.2.2.2.2.2.1, z11.2.2.2.2.2.2.1, z11.2.2.2.2.2.2.2.1, z11.2.2.2.2.2.2.2.2))
 else
 vbq t0 (fun z12 =>
 k (z12.1, z12.2.1, z12.2.2.1, z12.2.2.2.1, z12.2.2.2.2.1, z12.2.2.2.2.2.1, z12.2.2.2.2.2.2.1, z12.2.2.2.2.2.2.2.1, z12.2.2.2.2.2.2.2.2)))
 else
 bif (x.2.2.1 != (3 : Int)) then
 bif (x.2.2.2.2.1 != (0 : Int)) then
 k t1
 else
 vbq t0 (fun z13 =>
 k (z13.1, z13.2.1, z13.2.2.1, z13.2.2.2.1, z13.2.2.2.2.1, z13.2.2.2.2.2.1, z13.2.2.2.2.2.2.1, z13.2.2.2.2.2.2.2.1, z13.2.2.2.2.2.2.2.2))
 else
 vbq t0 (fun z14 =>
 k (z14.1, z14.2.1, z14.2.2.1, z14.2.2.2.1, z14.2.2.2.2.1, z14.2.2.2.2.2.1, z14.2.2.2.2.2.2.1, z14.2.2.2.2.2.2.2.1, z14.2.2.2.2.2.2.2.2))
instance n10n_jp5000009 (x : q33T) : ParC (vcb x) := by unfold vcb; (try dsimp only); exact ⟨(vam ((n22n_p _ _ _).p.bind fun y10 => (vam (vah _) (vam (vam (vah _) ((n10n_jp5000011 _).p.bind fun z11 => (vah _))) ((n10n_jp5000011 _).p.bind fun z12 => (vah _))))) (vam (vam (vah _) ((n10n_jp5000011 _).p.bind fun z13 => (vah _))) ((n10n_jp5000011 _).p.bind fun z14 => (vah _))))⟩
def vko (x : q28T) (k : q28T ⊕ (q28T ⊕ q28T) → Option Res) : Option Res :=
 let xh := x.2.2.2.2.2.2.2.2
 bif (decide (x.2.2.2.1 < x.2.2.1)) then
 if 0 ≤ x.2.2.2.1 ∧ x.2.2.2.1 < (x.2.1.length : Int) then
 vou (rd (Ty.zero tRange) x.2.1 x.2.2.2.1) (fun y9 =>
 bif (!y9) then
 k (.inr (.inl (false, x.2.1, x.2.2.1, x.2.2.2.1, x.2.2.2.2.1, x.2.2.2.2.2.1, x.2.2.2.2.2.2.1, x.2.2.2.2.2.2.2.1, xh.1, xh.2.1, xh.2.2.1, xh.2.2.2)))
 else
 k (.inl (x.1, x.2.1, x.2.2.1, (IntKind.wrap .i64 (x.2.2.2.1 + 1)), x.2.2.2.2.1, x.2.2.2.2.2.1, x.2.2.2.2.2.2.1, x.2.2.2.2.2.2.2.1, xh.1, xh.2.1, xh.2.2.1, xh.2.2.2)))
 else none
 else
 k (.inr (.inr (x.1, x.2.1, x.2.2.1, x.2.2.2.1, x.2.2.2.2.1, x.2.2.2.2.2.1, x.2.2.2.2.2.2.1, x.2.2.2.2.2.2.2.1, xh.1, xh.2.1, xh.2.2.1, xh.2.2.2)))
instance n10n_bp0 (x : q28T) : ParC (vko x) := by unfold vko; (try dsimp only); infer_instance
def v6t (a0 : dTxn) (k : Bool → Option Res) : Option Res :=
 vae vko Fuel (false, a0.2.2.2.2.1, (a0.2.2.2.2.1.length : Int), 0, a0.1, a0.2.1, a0.2.2.1, a0.2.2.2.1, a0.2.2.2.2.1, a0.2.2.2.2.2.1, a0.2.2.2.2.2.2.1, a0.2.2.2.2.2.2.2) (Sum.elim (fun z1 =>
 k z1.1) (fun z2 =>
 let z2h := z2.2.2.2.2.2.2.2.2
 vf2 z2.2.2.2.2.1 (1 : Int) (9999 : Int) (fun y3 =>
 bif (!y3) then
 k false
 else
 vf2 z2.2.2.2.2.2.1 (1 : Int) (3 : Int) (fun y4 =>
 bif (!y4) then
 k false
 else
 vf2 z2.2.2.2.2.2.2.1 (0 : Int) (9999 : Int) (fun y5 =>
 bif (!y5) then
 k false
 else
 bif (decide ((z2h.1.length : Int) > (8 : Int))) then
 k false
 else
 vsr z2h.2.1 (fun y6 =>
 bif (!y6) then
 k false
 else
 bif z2h.2.2.1 then
 bif (z2.2.2.2.2.2.1 == (1 : Int)) then
 k false
 else
 vcb (z2.1, z2.2.2.2.2.1, z2.2.2.2.2.2.1, z2.2.2.2.2.2.2.1, z2.2.2.2.2.2.2.2.1, z2h.1, z2h.2.1, z2h.2.2.1, z2h.2.2.2) (fun z7 =>
 k z7.1)
 else
 vcb (z2.1, z2.2.2.2.2.1, z2.2.2.2.2.2.1, z2.2.2.2.2.2.2.1, z2.2.2.2.2.2.2.2.1, z2h.1, z2h.2.1, z2h.2.2.1, z2h.2.2.2) (fun z8 =>
 k z8.1)))))))
def vrj := shut v6t
theorem we7 : vrj = v6t := vag _
instance n10n_p (a0 : dTxn) : ParC (vrj a0) := by rw [we7]; unfold v6t; (try dsimp only); exact ⟨((vid (fun x => (n10n_bp0 x).p) _ _).bind2 (fun z1 => (vah _)) (fun z2 => ((n22n_p _ _ _).p.bind fun y3 => (vam (vah _) ((n22n_p _ _ _).p.bind fun y4 => (vam (vah _) ((n22n_p _ _ _).p.bind fun y5 => (vam (vah _) (vam (vah _) ((n12n_p _).p.bind fun y6 => (vam (vah _) (vam (vam (vah _) ((n10n_jp5000009 _).p.bind fun z7 => (vah _))) ((n10n_jp5000009 _).p.bind fun z8 => (vah _))))))))))))))⟩
def vlb (x : q2T) (k : q2T ⊕ (q2T ⊕ q2T) → Option Res) : Option Res :=
 bif (decide (x.2.2.2.1 < x.2.2.1)) then
 if 0 ≤ x.2.2.2.1 ∧ x.2.2.2.1 < (x.1.length : Int) then
 bif (Ty.eqB tRange x.2.2.2.2 (rd (Ty.zero tRange) x.1 x.2.2.2.1)) then
 k (.inr (.inl (x.1, x.2.2.2.1, x.2.2.1, x.2.2.2.1, x.2.2.2.2.1, x.2.2.2.2.2)))
 else
 k (.inl (x.1, x.2.1, x.2.2.1, (IntKind.wrap .i64 (x.2.2.2.1 + 1)), x.2.2.2.2.1, x.2.2.2.2.2))
 else none
 else
 k (.inr (.inr (x.1, x.2.1, x.2.2.1, x.2.2.2.1, x.2.2.2.2.1, x.2.2.2.2.2)))
instance n75n_bp0 (x : q2T) : ParC (vlb x) := by unfold vlb; (try dsimp only); infer_instance
def v9d (a0 : (List vab)) (a1 : vab) (k : Int → Option Res) : Option Res :=
 vae vlb Fuel (a0, 0, (a0.length : Int), 0, a1.1, a1.2) (Sum.elim (fun z1 =>
 k z1.2.1) (fun _ =>
 k (-1 : Int)))
def v27 := shut v9d
theorem we1 : v27 = v9d := vag _
instance n75n_p (a0 : (List vab)) (a1 : vab) : ParC (v27 a0 a1) := by rw [we1]; unfold v9d; (try dsimp only); infer_instance
def v79 (a0 : (List vab)) (a1 : vab) (k : Bool → Option Res) : Option Res :=
 v27 a0 a1 (fun y1 =>
 k (decide (y1 ≥ 0)))
def vyb := shut v79
theorem wev : vyb = v79 := vag _
instance n72n_p (a0 : (List vab)) (a1 : vab) : ParC (vyb a0 a1) := by rw [wev]; unfold v79; (try dsimp only); infer_instance
def vcp (x : q31T) (k : q32T → Option Res) : Option Res :=
 let xh := x.2.2.2.2.2.2.2.2
 let xhh := xh.2.2.2.2.2.2.2.2
 let xhhh := xhh.2.2.2.2.2.2.2.2
 let t0 := (xh.2.1, xh.2.2.1)
 vyb x.2.2.2.2.2.1 t0 (fun y5 =>
 bif y5 then
 k (true, x.2.1, x.2.2.1, x.2.2.2.1, x.2.2.2.2.1, x.2.2.2.2.2.1, x.2.2.2.2.2.2.1, x.2.2.2.2.2.2.2.1, xh.1, xh.2.1, xh.2.2.1, xhh.2.1, xhh.2.2.1, xhh.2.2.2.1, xhh.2.2.2.2.1, xhh.2.2.2.2.2.1, xhh.2.2.2.2.2.2.1, xhh.2.1, xhh.2.2.1, xhh.2.2.2.1, xhh.2.2.2.2.1, xhh.2.2.2.2.2.1, xhh.2.2.2.2.2.2.1, xhhh.2.1, xhhh.2.2)
 else
 bif ((x.2.2.2.2.2.1.length : Int) == (8 : Int)) then
 k (false, x.2.1, x.2.2.1, x.2.2.2.1, x.2.2.2.2.1, x.2.2.2.2.2.1, x.2.2.2.2.2.2.1, x.2.2.2.2.2.2.2.1, xh.1, xh.2.1, xh.2.2.1, xhh.2.1, xhh.2.2.1, xhh.2.2.2.1, xhh.2.2.2.2.1, xhh.2.2.2.2.2.1, xhh.2.2.2.2.2.2.1, xhh.2.1, xhh.2.2.1, xhh.2.2.2.1, xhh.2.2.2.2.1, xhh.2.2.2.2.2.1, xhh.2.2.2.2.2.2.1, xhhh.2.1, xhhh.2.2)
 else
 if xhhh.2.1.length + [t0].length ≤ VE.maxLen then
 k (true, x.2.1, x.2.2.1, x.2.2.2.1, x.2.2.2.2.1, x.2.2.2.2.2.1, x.2.2.2.2.2.2.1, x.2.2.2.2.2.2.2.1, xh.1, xh.2.1, xh.2.2.1, xhh.2.1, xhh.2.2.1, xhh.2.2.2.1, xhh.2.2.2.2.1, xhh.2.2.2.2.2.1, xhh.2.2.2.2.2.2.1, xhh.2.1, xhh.2.2.1, xhh.2.2.2.1, xhh.2.2.2.2.1, xhh.2.2.2.2.2.1, xhh.2.2.2.2.2.2.1, (xhhh.2.1 ++ [t0]), xhhh.2.2)
 else none)
instance n07n_jp5000004 (x : q31T) : ParC (vcp x) := by unfold vcp; (try dsimp only); infer_instance
def v73 (a0 : dTxn) (a1 : vab) (k : q49T → Option Res) : Option Res :=
 vp9 a0 (fun y1 =>
 vrj a0 (fun y2 =>
 bif (!y2) then
 k (y1.1, y1.2.1, y1.2.2.1, y1.2.2.2.1, y1.2.2.2.2.1, y1.2.2.2.2.2.1, false, y1.2.2.2.2.2.2.1, y1.2.2.2.2.2.2.2)
 else
 bif (a0.2.1 != (1 : Int)) then
 k (y1.1, y1.2.1, y1.2.2.1, y1.2.2.2.1, y1.2.2.2.2.1, y1.2.2.2.2.2.1, false, y1.2.2.2.2.2.2.1, y1.2.2.2.2.2.2.2)
 else
 vou a1 (fun y3 =>
 bif (!y3) then
 k (y1.1, y1.2.1, y1.2.2.1, y1.2.2.2.1, y1.2.2.2.2.1, y1.2.2.2.2.2.1, false, y1.2.2.2.2.2.2.1, y1.2.2.2.2.2.2.2)
 else
 vcp (false, a0.1, a0.2.1, a0.2.2.1, a0.2.2.2.1, a0.2.2.2.2.1, a0.2.2.2.2.2.1, a0.2.2.2.2.2.2.1, a0.2.2.2.2.2.2.2, a1.1, a1.2, 0, 0, 0, 0, false, (⟨#[]⟩ : ByteArray), y1.1, y1.2.1, y1.2.2.1, y1.2.2.2.1, y1.2.2.2.2.1, y1.2.2.2.2.2.1, ([] : List vab), ([] : List vaf), y1.2.2.2.2.2.2.1, y1.2.2.2.2.2.2.2) (fun z4 =>
 let z4h := z4.2.2.2.2.2.2.2.2
 let z4hh := z4h.2.2.2.2.2.2.2.2
 k (z4h.2.2.2.1, z4h.2.2.2.2.1, z4h.2.2.2.2.2.1, z4h.2.2.2.2.2.2.1, z4h.2.2.2.2.2.2.2.1, z4hh.1, z4.1, z4hh.2.2.2.2.2.2.2.1, z4hh.2.2.2.2.2.2.2.2)))))
def vvp := shut v73
theorem wfi : vvp = v73 := vag _
instance n07n_p (a0 : dTxn) (a1 : vab) : ParC (vvp a0 a1) := by rw [wfi]; unfold v73; (try dsimp only); infer_instance
def v6q (a0 : vbb) (a1 : Int) (a2 : vab) (a3 : Bool) (k : q47T → Option Res) : Option Res :=
 v1e a0 (fun y1 =>
 v18 a0 a1 (fun y2 =>
 bif (decide (y2 < 0)) then
 k (y1.1, y1.2.1, y2, 1, y1.2.2.1, y1.2.2.2.1, y1.2.2.2.2.1, y1.2.2.2.2.2)
 else
 bif (!a3) then
 k (y1.1, y1.2.1, y2, 2, y1.2.2.1, y1.2.2.2.1, y1.2.2.2.2.1, y1.2.2.2.2.2)
 else
 if 0 ≤ y2 ∧ y2 < (a0.2.length : Int) then
 vvp (rd (Ty.zero tTxn) a0.2 y2) a2 (fun y3 =>
 bif (!y3.2.2.2.2.2.2.1) then
 k (y1.1, y1.2.1, y2, 3, y1.2.2.1, y1.2.2.2.1, y1.2.2.2.2.1, y1.2.2.2.2.2)
 else
 if 0 ≤ y2 ∧ y2 < (y1.2.2.2.2.2.length : Int) then
 k (y1.1, y1.2.1, y2, 0, y1.2.2.1, y1.2.2.2.1, y1.2.2.2.2.1, (y1.2.2.2.2.2.set y2.toNat (y3.1, (y3.2.1, (y3.2.2.1, (y3.2.2.2.1, (y3.2.2.2.2.2.2.2.1, (y3.2.2.2.2.2.2.2.2, (y3.2.2.2.2.1, y3.2.2.2.2.2.1)))))))))
 else none)
 else none))
def v83 := shut v6q
theorem wg3 : v83 = v6q := vag _
instance n21n_p (a0 : vbb) (a1 : Int) (a2 : vab) (a3 : Bool) : ParC (v83 a0 a1 a2 a3) := by rw [wg3]; unfold v6q; (try dsimp only); infer_instance
def vv2 (a0 : (List ByteArray)) (k : (List ByteArray) → Option Res) : Option Res :=
 if a0.length ≤ 1000000000 then
 k (ve2 a0)
 else none
def vn9 := shut vv2
theorem v6s : vn9 = vv2 := vag _
instance n76n_p (a0 : (List ByteArray)) : ParC (vn9 a0) := by rw [v6s]; unfold vv2; (try dsimp only); infer_instance
def vie (x : (Int × Nat × Int × (List ByteArray))) (k : (Int × Nat × Int × (List ByteArray)) ⊕ (Int × Nat × Int × (List ByteArray)) → Option Res) : Option Res :=
 bif (decide (x.2.2.1 < ((x.2.2.2.length : Int) - ((x.2.1 : Nat) : Int)))) then
 if 0 ≤ x.2.2.1 ∧ x.2.2.1 < (x.2.2.2.length : Int) - ((x.2.1 : Nat) : Int) then
 if 0 ≤ (IntKind.wrap .i64 (x.2.2.1 - 1)) ∧ (IntKind.wrap .i64 (x.2.2.1 - 1)) < (x.2.2.2.length : Int) - ((x.2.1 : Nat) : Int) then
 bif (!(vas (x.2.2.2.getD (x.2.1 + x.2.2.1.toNat) (Ty.zero .str)) (x.2.2.2.getD (x.2.1 + (IntKind.wrap .i64 (x.2.2.1 - 1)).toNat) (Ty.zero .str)))) then
 if 0 ≤ x.2.2.1 ∧ x.2.2.1 < (x.2.2.2.length : Int) - ((x.2.1 : Nat) : Int) then
 if 0 ≤ x.1 ∧ x.1 < (x.2.2.2.length : Int) then
 k (.inl ((IntKind.wrap .i64 (x.1 + 1)), x.2.1, (IntKind.wrap .i64 (x.2.2.1 + 1)), (x.2.2.2.set x.1.toNat (x.2.2.2.getD (x.2.1 + x.2.2.1.toNat) (Ty.zero .str)))))
 else none
 else none
 else
 k (.inl (x.1, x.2.1, (IntKind.wrap .i64 (x.2.2.1 + 1)), x.2.2.2))
 else none
 else none
 else
 k (.inr (x.1, x.2.1, x.2.2.1, x.2.2.2))
instance n71n_bp2 (x : (Int × Nat × Int × (List ByteArray))) : ParC (vie x) := by unfold vie; (try dsimp only); infer_instance
def vgh (x : q38T) (k : q38T ⊕ (q38T ⊕ (Int × (List ByteArray))) → Option Res) : Option Res :=
 bif (decide (x.1 < (x.2.1.length : Int))) then
 if 0 ≤ x.1 ∧ x.1 < (x.2.1.length : Int) then
 if 0 ≤ (IntKind.wrap .i64 (x.1 - 1)) ∧ (IntKind.wrap .i64 (x.1 - 1)) < (x.2.1.length : Int) then
 bif (vas (x.2.1.getD x.1.toNat (Ty.zero .str)) (x.2.1.getD (IntKind.wrap .i64 (x.1 - 1)).toNat (Ty.zero .str))) then
 if 0 ≤ x.1 ∧ x.1 ≤ (x.2.1.length : Int) then
 vae vie Fuel (x.1, x.1.toNat, 1, x.2.1) (fun z3 =>
 if 0 ≤ z3.1 ∧ z3.1 ≤ (z3.2.2.2.length : Int) then
 if 0 ≤ z3.1 ∧ z3.1 ≤ ((z3.2.2.2.take z3.1.toNat ++ List.replicate (z3.2.2.2.length - z3.1.toNat) (Ty.zero .str)).length : Int) then
 k (.inr (.inr (z3.1, ((z3.2.2.2.take z3.1.toNat ++ List.replicate (z3.2.2.2.length - z3.1.toNat) (Ty.zero .str)).take z3.1.toNat))))
 else none
 else none)
 else none
 else
 k (.inl ((IntKind.wrap .i64 (x.1 + 1)), x.2.1, x.2.2))
 else none
 else none
 else
 k (.inr (.inl (x.1, x.2.1, x.2.2)))
instance n71n_bp0 (x : q38T) : ParC (vgh x) := by unfold vgh; (try dsimp only); infer_instance
def v9s (a0 : (List ByteArray)) (k : ((List ByteArray) ⊕ (List ByteArray)) → Option Res) : Option Res :=
 bif (decide ((a0.length : Int) < (2 : Int))) then
 k (.inl a0)
 else
 vae vgh Fuel (1, a0, ([] : List ByteArray)) (Sum.elim (fun z1 =>
 k (.inl z1.2.1)) (fun z2 =>
 k (.inr z2.2)))
def vok := shut v9s
theorem wc0 : vok = v9s := vag _
instance n71n_p (a0 : (List ByteArray)) : ParC (vok a0) := by rw [wc0]; unfold v9s; (try dsimp only); infer_instance
def vjj (x : q17T) (k : q17T ⊕ q17T → Option Res) : Option Res :=
 bif (decide (x.2.2.1 < x.2.1)) then
 if 0 ≤ x.2.2.1 ∧ x.2.2.1 < (x.1.length : Int) then
 if x.2.2.2.length + [(rd (Ty.zero tVersion) x.1 x.2.2.1).1].length ≤ VE.maxLen then
 k (.inl (x.1, x.2.1, (IntKind.wrap .i64 (x.2.2.1 + (1 : Int))), (x.2.2.2 ++ [(rd (Ty.zero tVersion) x.1 x.2.2.1).1])))
 else none
 else none
 else
 k (.inr (x.1, x.2.1, x.2.2.1, x.2.2.2))
instance n17n_bp0 (x : q17T) : ParC (vjj x) := by unfold vjj; (try dsimp only); infer_instance
def v8j (a0 : (List vaa)) (k : (List ByteArray) → Option Res) : Option Res :=
 vae vjj Fuel (a0, (a0.length : Int), 0, ([] : List ByteArray)) (fun z1 =>
 vn9 z1.2.2.2 (fun y2 =>
 vok y2 (Sum.elim (fun y3 =>
 k y3) (fun y4 =>
 k y4))))
def vro := shut v8j
theorem wf1 : vro = v8j := vag _
instance n17n_p (a0 : (List vaa)) : ParC (vro a0) := by rw [wf1]; unfold v8j; (try dsimp only); infer_instance
def wcz (a0 : vaf) (a1 : ByteArray) (k : (Bool × ByteArray) → Option Res) : Option Res :=
 k ((vas a0.1 a1), a1)
def vwl := shut wcz
theorem we9 : vwl = wcz := vag _
instance n20n_p (a0 : vaf) (a1 : ByteArray) : ParC (vwl a0 a1) := by rw [we9]; unfold wcz; (try dsimp only); infer_instance
def vke (x : q25T) (k : q25T ⊕ (q25T ⊕ q25T) → Option Res) : Option Res :=
 bif (decide (x.2.2.2.1 < x.2.2.1)) then
 if 0 ≤ x.2.2.2.1 ∧ x.2.2.2.1 < (x.1.length : Int) then
 vwl (rd (Ty.zero tWrite) x.1 x.2.2.2.1) x.2.2.2.2 (fun y3 =>
 bif y3.1 then
 k (.inr (.inl (x.1, x.2.2.2.1, x.2.2.1, x.2.2.2.1, y3.2)))
 else
 k (.inl (x.1, x.2.1, x.2.2.1, (IntKind.wrap .i64 (x.2.2.2.1 + 1)), y3.2)))
 else none
 else
 k (.inr (.inr (x.1, x.2.1, x.2.2.1, x.2.2.2.1, x.2.2.2.2)))
instance n74n_bp0 (x : q25T) : ParC (vke x) := by unfold vke; (try dsimp only); infer_instance
def v6r (a0 : (List vaf)) (a1 : ByteArray) (k : (Int × ByteArray) → Option Res) : Option Res :=
 vae vke Fuel (a0, 0, (a0.length : Int), 0, a1) (Sum.elim (fun z1 =>
 k (z1.2.1, z1.2.2.2.2)) (fun z2 =>
 k ((-1 : Int), z2.2.2.2.2)))
def v16 := shut v6r
theorem whf : v16 = v6r := vag _
instance n74n_p (a0 : (List vaf)) (a1 : ByteArray) : ParC (v16 a0 a1) := by rw [whf]; unfold v6r; (try dsimp only); infer_instance
def v8y (a0 : dTxn) (a1 : ByteArray) (k : Int → Option Res) : Option Res :=
 v16 a0.2.2.2.2.2.1 a1 (fun y1 =>
 k y1.1)
def v6j := shut v8y
theorem wde : v6j = v8y := vag _
instance n19n_p (a0 : dTxn) (a1 : ByteArray) : ParC (v6j a0 a1) := by rw [wde]; unfold v8y; (try dsimp only); infer_instance
def vk7 (x : q12T) (k : q12T ⊕ q12T → Option Res) : Option Res :=
 let t0 := (x.1, x.2.1, x.2.2.1, x.2.2.2.1, x.2.2.2.2.1, x.2.2.2.2.2.1, (IntKind.wrap .i64 (x.2.2.2.2.2.2 + (1 : Int))))
 bif (decide (x.2.2.2.2.2.2 < x.2.2.2.2.2.1)) then
 if 0 ≤ x.2.2.2.2.2.2 ∧ x.2.2.2.2.2.2 < (x.2.2.2.2.1.length : Int) then
 bif (vas ((rd (Ty.zero tVersion) x.2.2.2.2.1 x.2.2.2.2.2.2).1) x.2.1) then
 bif (decide ((rd (Ty.zero tVersion) x.2.2.2.2.1 x.2.2.2.2.2.2).2.2.2 ≤ x.2.2.1)) then
 bif (decide (x.2.2.2.1 < 0)) then
 k (.inl (x.1, x.2.1, x.2.2.1, x.2.2.2.2.2.2, x.2.2.2.2.1, x.2.2.2.2.2.1, (IntKind.wrap .i64 (x.2.2.2.2.2.2 + 1))))
 else
 if 0 ≤ x.2.2.2.1 ∧ x.2.2.2.1 < (x.1.length : Int) then
 bif (decide ((rd (Ty.zero tVersion) x.2.2.2.2.1 x.2.2.2.2.2.2).2.2.2 > (rd (Ty.zero tVersion) x.1 x.2.2.2.1).2.2.2)) then
 k (.inl (x.1, x.2.1, x.2.2.1, x.2.2.2.2.2.2, x.2.2.2.2.1, x.2.2.2.2.2.1, (IntKind.wrap .i64 (x.2.2.2.2.2.2 + 1))))
 else
 k (.inl t0)
 else none
 else
 k (.inl t0)
 else
 k (.inl t0)
 else none
 else
 k (.inr (x.1, x.2.1, x.2.2.1, x.2.2.2.1, x.2.2.2.2.1, x.2.2.2.2.2.1, x.2.2.2.2.2.2))
instance n18n_bp0 (x : q12T) : ParC (vk7 x) := by unfold vk7; (try dsimp only); infer_instance
def v6u (a0 : (List vaa)) (a1 : ByteArray) (a2 : Int) (k : Int → Option Res) : Option Res :=
 vae vk7 Fuel (a0, a1, a2, (-1 : Int), a0, (a0.length : Int), 0) (fun z1 =>
 k z1.2.2.2.1)
def vv7 := shut v6u
theorem wcd : vv7 = v6u := vag _
instance n18n_p (a0 : (List vaa)) (a1 : ByteArray) (a2 : Int) : ParC (vv7 a0 a1 a2) := by rw [wcd]; unfold v6u; (try dsimp only); infer_instance
def v8w (a0 : (List vaa)) (a1 : ByteArray) (a2 : Int) (k : (ByteArray × Bool) → Option Res) : Option Res :=
 vv7 a0 a1 a2 (fun y1 =>
 bif (decide (y1 < 0)) then
 k ((⟨#[]⟩ : ByteArray), false)
 else
 if 0 ≤ y1 ∧ y1 < (a0.length : Int) then
 bif (rd (Ty.zero tVersion) a0 y1).2.2.1 then
 k ((⟨#[]⟩ : ByteArray), false)
 else
 if 0 ≤ y1 ∧ y1 < (a0.length : Int) then
 k ((rd (Ty.zero tVersion) a0 y1).2.1, true)
 else none
 else none)
def v1d := shut v8w
theorem we3 : v1d = v8w := vag _
instance n09n_p (a0 : (List vaa)) (a1 : ByteArray) (a2 : Int) : ParC (v1d a0 a1 a2) := by rw [we3]; unfold v8w; (try dsimp only); infer_instance
def v87 (a0 : dTxn) (a1 : (List vaa)) (a2 : ByteArray) (k : (ByteArray × Bool) → Option Res) : Option Res :=
 v6j a0 a2 (fun y1 =>
 bif (decide (y1 ≥ 0)) then
 if 0 ≤ y1 ∧ y1 < (a0.2.2.2.2.2.1.length : Int) then
 bif (rd (Ty.zero tWrite) a0.2.2.2.2.2.1 y1).2.2 then
 k ((⟨#[]⟩ : ByteArray), false)
 else
 if 0 ≤ y1 ∧ y1 < (a0.2.2.2.2.2.1.length : Int) then
 k ((rd (Ty.zero tWrite) a0.2.2.2.2.2.1 y1).2.1, true)
 else none
 else none
 else
 v1d a1 a2 a0.2.2.1 (fun y2 =>
 k (y2.1, y2.2)))
def v2x := shut v87
theorem wfr : v2x = v87 := vag _
instance n04n_p (a0 : dTxn) (a1 : (List vaa)) (a2 : ByteArray) : ParC (v2x a0 a1 a2) := by rw [wfr]; unfold v87; (try dsimp only); infer_instance
def v6n (a0 : vab) (a1 : ByteArray) (k : Bool → Option Res) : Option Res :=
 bif (!(vaj a1 a0.1)) then
 k ((vaj a1 a0.2) || (vas a1 a0.2))
 else
 k false
def vxb := shut v6n
theorem wfg : vxb = v6n := vag _
instance n00n_p (a0 : vab) (a1 : ByteArray) : ParC (vxb a0 a1) := by rw [wfg]; unfold v6n; (try dsimp only); infer_instance
def vk5 (x : q10T) (k : q10T ⊕ q10T → Option Res) : Option Res :=
 let xh := x.2.2.2.2.2.2.2.2
 bif (decide (x.2.2.2.1 < x.2.2.1)) then
 if 0 ≤ x.2.2.2.1 ∧ x.2.2.2.1 < (x.2.1.length : Int) then
 if xh.2.2.2.2.2.2.length + [(rd (Ty.zero tWrite) x.2.1 x.2.2.2.1).1].length ≤ VE.maxLen then
 k (.inl (x.1, x.2.1, x.2.2.1, (IntKind.wrap .i64 (x.2.2.2.1 + (1 : Int))), x.2.2.2.2.1, x.2.2.2.2.2.1, x.2.2.2.2.2.2.1, x.2.2.2.2.2.2.2.1, xh.1, xh.2.1, xh.2.2.1, xh.2.2.2.1, xh.2.2.2.2.1, xh.2.2.2.2.2.1, (xh.2.2.2.2.2.2 ++ [(rd (Ty.zero tWrite) x.2.1 x.2.2.2.1).1])))
 else none
 else none
 else
 k (.inr (x.1, x.2.1, x.2.2.1, x.2.2.2.1, x.2.2.2.2.1, x.2.2.2.2.2.1, x.2.2.2.2.2.2.1, x.2.2.2.2.2.2.2.1, xh.1, xh.2.1, xh.2.2.1, xh.2.2.2.1, xh.2.2.2.2.1, xh.2.2.2.2.2.1, xh.2.2.2.2.2.2))
instance n05n_bp0 (x : q10T) : ParC (vk5 x) := by unfold vk5; (try dsimp only); infer_instance
def vet (x : q20T) (k : q20T ⊕ q20T → Option Res) : Option Res :=
 let xh := x.2.2.2.2.2.2.2.2
 let t0 := (x.1, x.2.1, (IntKind.wrap .i64 (x.2.2.1 + (1 : Int))), x.2.2.2.1, x.2.2.2.2.1, x.2.2.2.2.2.1, x.2.2.2.2.2.2.1, x.2.2.2.2.2.2.2.1, xh.1, xh.2.1, xh.2.2.1, xh.2.2.2.1, xh.2.2.2.2.1, xh.2.2.2.2.2.1, xh.2.2.2.2.2.2)
 let t1 := (xh.2.2.2.2.2.2.getD x.2.2.1.toNat (Ty.zero .str))
 bif (decide (x.2.2.1 < x.2.1)) then
 if 0 ≤ x.2.2.1 ∧ x.2.2.1 < (xh.2.2.2.2.2.2.length : Int) then
 v2x (x.2.2.2.1, (x.2.2.2.2.1, (x.2.2.2.2.2.1, (x.2.2.2.2.2.2.1, (x.2.2.2.2.2.2.2.1, (xh.1, (xh.2.1, xh.2.2.1))))))) x.1 t1 (fun y8 =>
 bif y8.2 then
 vxb (xh.2.2.2.1, xh.2.2.2.2.1) t1 (fun y9 =>
 bif y9 then
 if xh.2.2.2.2.2.1.length + [(t1, y8.1)].length ≤ VE.maxLen then
 k (.inl (x.1, x.2.1, (IntKind.wrap .i64 (x.2.2.1 + (1 : Int))), x.2.2.2.1, x.2.2.2.2.1, x.2.2.2.2.2.1, x.2.2.2.2.2.2.1, x.2.2.2.2.2.2.2.1, xh.1, xh.2.1, xh.2.2.1, xh.2.2.2.1, xh.2.2.2.2.1, (xh.2.2.2.2.2.1 ++ [(t1, y8.1)]), xh.2.2.2.2.2.2))
 else none
 else
 k (.inl t0))
 else
 k (.inl t0))
 else none
 else
 k (.inr (x.1, x.2.1, x.2.2.1, x.2.2.2.1, x.2.2.2.2.1, x.2.2.2.2.2.1, x.2.2.2.2.2.2.1, x.2.2.2.2.2.2.2.1, xh.1, xh.2.1, xh.2.2.1, xh.2.2.2.1, xh.2.2.2.2.1, xh.2.2.2.2.2.1, xh.2.2.2.2.2.2))
instance n05n_bp2 (x : q20T) : ParC (vet x) := by unfold vet; (try dsimp only); infer_instance
def v62 (a0 : dTxn) (a1 : (List vaa)) (a2 : vab) (k : (List vab) → Option Res) : Option Res :=
 vro a1 (fun y1 =>
 vae vk5 Fuel (a1, a0.2.2.2.2.2.1, (a0.2.2.2.2.2.1.length : Int), 0, a0.1, a0.2.1, a0.2.2.1, a0.2.2.2.1, a0.2.2.2.2.1, a0.2.2.2.2.2.1, a0.2.2.2.2.2.2.1, a0.2.2.2.2.2.2.2, a2.1, a2.2, y1) (fun z2 =>
 let z2h := z2.2.2.2.2.2.2.2.2
 vn9 z2h.2.2.2.2.2.2 (fun y3 =>
 vok y3 (Sum.elim (fun y4 =>
 vae vet Fuel (z2.1, (y4.length : Int), 0, z2.2.2.2.2.1, z2.2.2.2.2.2.1, z2.2.2.2.2.2.2.1, z2.2.2.2.2.2.2.2.1, z2h.1, z2h.2.1, z2h.2.2.1, z2h.2.2.2.1, z2h.2.2.2.2.1, z2h.2.2.2.2.2.1, ([] : List vab), y4) (fun z5 =>
 k z5.2.2.2.2.2.2.2.2.2.2.2.2.2.1)) (fun y6 =>
 vae vet Fuel (z2.1, (y6.length : Int), 0, z2.2.2.2.2.1, z2.2.2.2.2.2.1, z2.2.2.2.2.2.2.1, z2.2.2.2.2.2.2.2.1, z2h.1, z2h.2.1, z2h.2.2.1, z2h.2.2.2.1, z2h.2.2.2.2.1, z2h.2.2.2.2.2.1, ([] : List vab), y6) (fun z7 =>
 k z7.2.2.2.2.2.2.2.2.2.2.2.2.2.1))))))
def vx6 := shut v62
theorem wfj : vx6 = v62 := vag _
instance n05n_p (a0 : dTxn) (a1 : (List vaa)) (a2 : vab) : ParC (vx6 a0 a1 a2) := by rw [wfj]; unfold v62; (try dsimp only); exact ⟨((n17n_p _).p.bind fun y1 => ((vid (fun x => (n05n_bp0 x).p) _ _).bind fun z2 => ((n76n_p _).p.bind fun y3 => ((n71n_p _).p.bind2 (fun y4 => ((vid (fun x => (n05n_bp2 x).p) _ _).bind fun z5 => (vah _))) (fun y6 => ((vid (fun x => (n05n_bp2 x).p) _ _).bind fun z7 => (vah _)))))))⟩
def v9i (a0 : vbb) (a1 : Int) (a2 : vab) (k : q45T → Option Res) : Option Res :=
 vou a2 (fun y1 =>
 v83 a0 a1 a2 y1 (fun y2 =>
 bif (y2.2.2.2.1 != (0 : Int)) then
 k (y2.1, y2.2.1, y2.2.2.2.1, y2.2.2.2.2.1, y2.2.2.2.2.2.1, y2.2.2.2.2.2.2.1, y2.2.2.2.2.2.2.2, ([] : List vab))
 else
 if 0 ≤ y2.2.2.1 ∧ y2.2.2.1 < (a0.2.length : Int) then
 vx6 (rd (Ty.zero tTxn) a0.2 y2.2.2.1) a0.1.1 a2 (fun y3 =>
 k (y2.1, y2.2.1, 0, y2.2.2.2.2.1, y2.2.2.2.2.2.1, y2.2.2.2.2.2.2.1, y2.2.2.2.2.2.2.2, y3))
 else none))
def vpy := shut v9i
theorem wg8 : vpy = v9i := vag _
instance n08n_p (a0 : vbb) (a1 : Int) (a2 : vab) : ParC (vpy a0 a1 a2) := by rw [wg8]; unfold v9i; (try dsimp only); infer_instance
def v92 (a0 : vaa) (a1 : vaa) (k : Bool → Option Res) : Option Res :=
 bif (!(vas a0.1 a1.1)) then
 k false
 else
 bif (!(vas a0.2.1 a1.2.1)) then
 k false
 else
 bif (!(a0.2.2.1 == a1.2.2.1)) then
 k false
 else
 bif (a0.2.2.2 != a1.2.2.2) then
 k false
 else
 k true
def vxy := shut v92
theorem wf7 : vxy = v92 := vag _
instance n32n_p (a0 : vaa) (a1 : vaa) : ParC (vxy a0 a1) := by rw [wf7]; unfold v92; (try dsimp only); infer_instance
def vle (x : q9T) (k : q9T ⊕ (q9T ⊕ q9T) → Option Res) : Option Res :=
 bif (decide (x.2.2.2 < (x.1.length : Int))) then
 if 0 ≤ x.2.2.2 ∧ x.2.2.2 < (x.1.length : Int) then
 if 0 ≤ x.2.2.2 ∧ x.2.2.2 < (x.2.1.length : Int) then
 vxy (rd (Ty.zero tVersion) x.1 x.2.2.2) (rd (Ty.zero tVersion) x.2.1 x.2.2.2) (fun y3 =>
 bif (!y3) then
 k (.inr (.inl (x.1, x.2.1, false, x.2.2.2)))
 else
 k (.inl (x.1, x.2.1, x.2.2.1, (IntKind.wrap .i64 (x.2.2.2 + 1)))))
 else none
 else none
 else
 k (.inr (.inr (x.1, x.2.1, x.2.2.1, x.2.2.2)))
instance n33n_bp0 (x : q9T) : ParC (vle x) := by unfold vle; (try dsimp only); infer_instance
def v6g (a0 : (List vaa)) (a1 : (List vaa)) (k : Bool → Option Res) : Option Res :=
 bif ((a0.length : Int) != (a1.length : Int)) then
 k false
 else
 vae vle Fuel (a0, a1, false, 0) (Sum.elim (fun z1 =>
 k z1.2.2.1) (fun _ =>
 k true))
def vxe := shut v6g
theorem wgr : vxe = v6g := vag _
instance n33n_p (a0 : (List vaa)) (a1 : (List vaa)) : ParC (vxe a0 a1) := by rw [wgr]; unfold v6g; (try dsimp only); infer_instance
def v7a (a0 : vab) (a1 : vab) (k : Bool → Option Res) : Option Res :=
 bif (!(vas a0.1 a1.1)) then
 k false
 else
 bif (!(vas a0.2 a1.2)) then
 k false
 else
 k true
def vvv := shut v7a
theorem wda : vvv = v7a := vag _
instance n28n_p (a0 : vab) (a1 : vab) : ParC (vvv a0 a1) := by rw [wda]; unfold v7a; (try dsimp only); infer_instance
def vkt (x : q0T) (k : q0T ⊕ (q0T ⊕ q0T) → Option Res) : Option Res :=
 bif (decide (x.2.2.2 < (x.1.length : Int))) then
 if 0 ≤ x.2.2.2 ∧ x.2.2.2 < (x.1.length : Int) then
 if 0 ≤ x.2.2.2 ∧ x.2.2.2 < (x.2.1.length : Int) then
 vvv (rd (Ty.zero tRange) x.1 x.2.2.2) (rd (Ty.zero tRange) x.2.1 x.2.2.2) (fun y3 =>
 bif (!y3) then
 k (.inr (.inl (x.1, x.2.1, false, x.2.2.2)))
 else
 k (.inl (x.1, x.2.1, x.2.2.1, (IntKind.wrap .i64 (x.2.2.2 + 1)))))
 else none
 else none
 else
 k (.inr (.inr (x.1, x.2.1, x.2.2.1, x.2.2.2)))
instance n29n_bp0 (x : q0T) : ParC (vkt x) := by unfold vkt; (try dsimp only); infer_instance
def v6p (a0 : (List vab)) (a1 : (List vab)) (k : Bool → Option Res) : Option Res :=
 bif ((a0.length : Int) != (a1.length : Int)) then
 k false
 else
 vae vkt Fuel (a0, a1, false, 0) (Sum.elim (fun z1 =>
 k z1.2.2.1) (fun _ =>
 k true))
def vwo := shut v6p
theorem wdh : vwo = v6p := vag _
instance n29n_p (a0 : (List vab)) (a1 : (List vab)) : ParC (vwo a0 a1) := by rw [wdh]; unfold v6p; (try dsimp only); infer_instance
def v9e (a0 : vaf) (a1 : vaf) (k : Bool → Option Res) : Option Res :=
 bif (!(vas a0.1 a1.1)) then
 k false
 else
 bif (!(vas a0.2.1 a1.2.1)) then
 k false
 else
 bif (!(a0.2.2 == a1.2.2)) then
 k false
 else
 k true
def vyt := shut v9e
theorem wds : vyt = v9e := vag _
instance n34n_p (a0 : vaf) (a1 : vaf) : ParC (vyt a0 a1) := by rw [wds]; unfold v9e; (try dsimp only); infer_instance
def vj6 (x : q22T) (k : q22T ⊕ (q22T ⊕ q22T) → Option Res) : Option Res :=
 bif (decide (x.2.2.2 < (x.1.length : Int))) then
 if 0 ≤ x.2.2.2 ∧ x.2.2.2 < (x.1.length : Int) then
 if 0 ≤ x.2.2.2 ∧ x.2.2.2 < (x.2.1.length : Int) then
 vyt (rd (Ty.zero tWrite) x.1 x.2.2.2) (rd (Ty.zero tWrite) x.2.1 x.2.2.2) (fun y3 =>
 bif (!y3) then
 k (.inr (.inl (x.1, x.2.1, false, x.2.2.2)))
 else
 k (.inl (x.1, x.2.1, x.2.2.1, (IntKind.wrap .i64 (x.2.2.2 + 1)))))
 else none
 else none
 else
 k (.inr (.inr (x.1, x.2.1, x.2.2.1, x.2.2.2)))
instance n35n_bp0 (x : q22T) : ParC (vj6 x) := by unfold vj6; (try dsimp only); infer_instance
def v8q (a0 : (List vaf)) (a1 : (List vaf)) (k : Bool → Option Res) : Option Res :=
 bif ((a0.length : Int) != (a1.length : Int)) then
 k false
 else
 vae vj6 Fuel (a0, a1, false, 0) (Sum.elim (fun z1 =>
 k z1.2.2.1) (fun _ =>
 k true))
def vv1 := shut v8q
theorem wgw : vv1 = v8q := vag _
instance n35n_p (a0 : (List vaf)) (a1 : (List vaf)) : ParC (vv1 a0 a1) := by rw [wgw]; unfold v8q; (try dsimp only); infer_instance
def v9q (a0 : dTxn) (a1 : dTxn) (k : Bool → Option Res) : Option Res :=
 bif (a0.1 != a1.1) then
 k false
 else
 bif (a0.2.1 != a1.2.1) then
 k false
 else
 bif (a0.2.2.1 != a1.2.2.1) then
 k false
 else
 bif (a0.2.2.2.1 != a1.2.2.2.1) then
 k false
 else
 vwo a0.2.2.2.2.1 a1.2.2.2.2.1 (fun y1 =>
 bif (!y1) then
 k false
 else
 vv1 a0.2.2.2.2.2.1 a1.2.2.2.2.2.1 (fun y2 =>
 bif (!y2) then
 k false
 else
 bif (!(a0.2.2.2.2.2.2.1 == a1.2.2.2.2.2.2.1)) then
 k false
 else
 bif (!(vas a0.2.2.2.2.2.2.2 a1.2.2.2.2.2.2.2)) then
 k false
 else
 k true))
def vrf := shut v9q
theorem wfy : vrf = v9q := vag _
instance n30n_p (a0 : dTxn) (a1 : dTxn) : ParC (vrf a0 a1) := by rw [wfy]; unfold v9q; (try dsimp only); infer_instance
def vkv (x : q4T) (k : q4T ⊕ (q4T ⊕ q4T) → Option Res) : Option Res :=
 bif (decide (x.2.2.2 < (x.1.length : Int))) then
 if 0 ≤ x.2.2.2 ∧ x.2.2.2 < (x.1.length : Int) then
 if 0 ≤ x.2.2.2 ∧ x.2.2.2 < (x.2.1.length : Int) then
 vrf (rd (Ty.zero tTxn) x.1 x.2.2.2) (rd (Ty.zero tTxn) x.2.1 x.2.2.2) (fun y3 =>
 bif (!y3) then
 k (.inr (.inl (x.1, x.2.1, false, x.2.2.2)))
 else
 k (.inl (x.1, x.2.1, x.2.2.1, (IntKind.wrap .i64 (x.2.2.2 + 1)))))
 else none
 else none
 else
 k (.inr (.inr (x.1, x.2.1, x.2.2.1, x.2.2.2)))
instance n31n_bp0 (x : q4T) : ParC (vkv x) := by unfold vkv; (try dsimp only); infer_instance
def v9a (a0 : (List dTxn)) (a1 : (List dTxn)) (k : Bool → Option Res) : Option Res :=
 bif ((a0.length : Int) != (a1.length : Int)) then
 k false
 else
 vae vkv Fuel (a0, a1, false, 0) (Sum.elim (fun z1 =>
 k z1.2.2.1) (fun _ =>
 k true))
def vob := shut v9a
theorem wd4 : vob = v9a := vag _
instance n31n_p (a0 : (List dTxn)) (a1 : (List dTxn)) : ParC (vob a0 a1) := by rw [wd4]; unfold v9a; (try dsimp only); infer_instance
def v19 (a0 : vmb) (a1 : vmb) (k : Bool → Option Res) : Option Res :=
 vxe a0.1 a1.1 (fun y1 =>
 bif (!y1) then
 k false
 else
 vob a0.2.1 a1.2.1 (fun y2 =>
 bif (!y2) then
 k false
 else
 vob a0.2.2.1 a1.2.2.1 (fun y3 =>
 bif (!y3) then
 k false
 else
 bif (a0.2.2.2.1 != a1.2.2.2.1) then
 k false
 else
 bif (a0.2.2.2.2 != a1.2.2.2.2) then
 k false
 else
 k true)))
def vwv := shut v19
theorem v8h : vwv = v19 := vag _
instance n24n_p (a0 : vmb) (a1 : vmb) : ParC (vwv a0 a1) := by rw [v8h]; unfold v19; (try dsimp only); infer_instance
def v1g (a0 : vbb) (a1 : vbb) (k : Bool → Option Res) : Option Res :=
 vwv a0.1 a1.1 (fun y1 =>
 bif (!y1) then
 k false
 else
 vob a0.2 a1.2 (fun y2 =>
 bif (!y2) then
 k false
 else
 k true))
def vft := shut v1g
theorem v7k : vft = v1g := vag _
instance n25n_p (a0 : vbb) (a1 : vbb) : ParC (vft a0 a1) := by rw [v7k]; unfold v1g; (try dsimp only); infer_instance
def v8i (a0 : vab) (a1 : vab) (k : Bool → Option Res) : Option Res :=
 bif (!(vas a0.1 a1.1)) then
 k false
 else
 bif (!(vas a0.2 a1.2)) then
 k false
 else
 k true
def vye := shut v8i
theorem wd9 : vye = v8i := vag _
instance n26n_p (a0 : vab) (a1 : vab) : ParC (vye a0 a1) := by rw [wd9]; unfold v8i; (try dsimp only); infer_instance
def vkd (x : q0T) (k : q0T ⊕ (q0T ⊕ q0T) → Option Res) : Option Res :=
 bif (decide (x.2.2.2 < (x.1.length : Int))) then
 if 0 ≤ x.2.2.2 ∧ x.2.2.2 < (x.1.length : Int) then
 if 0 ≤ x.2.2.2 ∧ x.2.2.2 < (x.2.1.length : Int) then
 vye (rd (Ty.zero tRange) x.1 x.2.2.2) (rd (Ty.zero tRange) x.2.1 x.2.2.2) (fun y3 =>
 bif (!y3) then
 k (.inr (.inl (x.1, x.2.1, false, x.2.2.2)))
 else
 k (.inl (x.1, x.2.1, x.2.2.1, (IntKind.wrap .i64 (x.2.2.2 + 1)))))
 else none
 else none
 else
 k (.inr (.inr (x.1, x.2.1, x.2.2.1, x.2.2.2)))
instance n27n_bp0 (x : q0T) : ParC (vkd x) := by unfold vkd; (try dsimp only); infer_instance
def v7p (a0 : (List vab)) (a1 : (List vab)) (k : Bool → Option Res) : Option Res :=
 bif ((a0.length : Int) != (a1.length : Int)) then
 k false
 else
 vae vkd Fuel (a0, a1, false, 0) (Sum.elim (fun z1 =>
 k z1.2.2.1) (fun _ =>
 k true))
def vkf := shut v7p
theorem wco : vkf = v7p := vag _
instance n27n_p (a0 : (List vab)) (a1 : (List vab)) : ParC (vkf a0 a1) := by rw [wco]; unfold v7p; (try dsimp only); infer_instance
def vmy (x : (Int × ByteArray)) (k : (Int × ByteArray) ⊕ (Int × ByteArray) → Option Res) : Option Res :=
 bif (decide (x.1 > 0)) then
 if (vm9 [(IntKind.wrap .u8 (IntKind.wrap .i64 ((48 : Int) + (x.1.tmod (10 : Int)))))]).size + x.2.size ≤ 1099511627776 then
 k (.inl ((IntKind.wrap .i64 (x.1.tdiv (10 : Int))), ((vm9 [(IntKind.wrap .u8 (IntKind.wrap .i64 ((48 : Int) + (x.1.tmod (10 : Int)))))]) ++ x.2)))
 else none
 else
 k (.inr (x.1, x.2))
instance n47n_bp0 (x : (Int × ByteArray)) : ParC (vmy x) := by unfold vmy; (try dsimp only); infer_instance
def v7o (a0 : Int) (k : ByteArray → Option Res) : Option Res :=
 bif (decide (a0 ≤ 0)) then
 k (⟨#[109, 48]⟩ : ByteArray)
 else
 vae vmy Fuel (a0, (⟨#[]⟩ : ByteArray)) (fun z1 =>
 if (⟨#[109]⟩ : ByteArray).size + z1.2.size ≤ 1099511627776 then
 k ((⟨#[109]⟩ : ByteArray) ++ z1.2)
 else none)
def vbk := shut v7o
theorem wdu : vbk = v7o := vag _
instance n47n_p (a0 : Int) : ParC (vbk a0) := by rw [wdu]; unfold v7o; (try dsimp only); infer_instance
def vlg (x : (Int × Int × (List vaa))) (k : (Int × Int × (List vaa)) ⊕ (Int × Int × (List vaa)) → Option Res) : Option Res :=
 let t0 := (x.2.2.getD x.2.1.toNat (Ty.zero tVersion))
 let t1 := (IntKind.wrap .i64 ((IntKind.wrap .i64 (x.1 + (1 : Int))) + (1 : Int)))
 let t2 := ((t1.tmod (3 : Int)) == (0 : Int))
 bif (decide (x.2.1 < (x.2.2.length : Int))) then
 vbk x.1 (fun y2 =>
 if 0 ≤ x.2.1 ∧ x.2.1 < (x.2.2.length : Int) then
 vbk (IntKind.wrap .i64 (x.1 + 1)) (fun y3 =>
 if 0 ≤ x.2.1 ∧ x.2.1 < ((x.2.2.set x.2.1.toNat (y2, t0.2)).length : Int) then
 if 0 ≤ x.2.1 ∧ x.2.1 < (((x.2.2.set x.2.1.toNat (y2, t0.2)).set x.2.1.toNat (((x.2.2.set x.2.1.toNat (y2, t0.2)).getD x.2.1.toNat (Ty.zero tVersion)).1, (y3, ((x.2.2.set x.2.1.toNat (y2, t0.2)).getD x.2.1.toNat (Ty.zero tVersion)).2.2))).length : Int) then
 if 0 ≤ x.2.1 ∧ x.2.1 < ((((x.2.2.set x.2.1.toNat (y2, t0.2)).set x.2.1.toNat (((x.2.2.set x.2.1.toNat (y2, t0.2)).getD x.2.1.toNat (Ty.zero tVersion)).1, (y3, ((x.2.2.set x.2.1.toNat (y2, t0.2)).getD x.2.1.toNat (Ty.zero tVersion)).2.2))).set x.2.1.toNat ((((x.2.2.set x.2.1.toNat (y2, t0.2)).set x.2.1.toNat (((x.2.2.set x.2.1.toNat (y2, t0.2)).getD x.2.1.toNat (Ty.zero tVersion)).1, (y3, ((x.2.2.set x.2.1.toNat (y2, t0.2)).getD x.2.1.toNat (Ty.zero tVersion)).2.2))).getD x.2.1.toNat (Ty.zero tVersion)).1, ((((x.2.2.set x.2.1.toNat (y2, t0.2)).set x.2.1.toNat (((x.2.2.set x.2.1.toNat (y2, t0.2)).getD x.2.1.toNat (Ty.zero tVersion)).1, (y3, ((x.2.2.set x.2.1.toNat (y2, t0.2)).getD x.2.1.toNat (Ty.zero tVersion)).2.2))).getD x.2.1.toNat (Ty.zero tVersion)).2.1, (t2, (((x.2.2.set x.2.1.toNat (y2, t0.2)).set x.2.1.toNat (((x.2.2.set x.2.1.toNat (y2, t0.2)).getD x.2.1.toNat (Ty.zero tVersion)).1, (y3, ((x.2.2.set x.2.1.toNat (y2, t0.2)).getD x.2.1.toNat (Ty.zero tVersion)).2.2))).getD x.2.1.toNat (Ty.zero tVersion)).2.2.2)))).length : Int) then
 k (.inl ((IntKind.wrap .i64 ((IntKind.wrap .i64 (t1 + 1)) + 1)), (IntKind.wrap .i64 (x.2.1 + 1)), ((((x.2.2.set x.2.1.toNat (y2, t0.2)).set x.2.1.toNat (((x.2.2.set x.2.1.toNat (y2, t0.2)).getD x.2.1.toNat (Ty.zero tVersion)).1, (y3, ((x.2.2.set x.2.1.toNat (y2, t0.2)).getD x.2.1.toNat (Ty.zero tVersion)).2.2))).set x.2.1.toNat ((((x.2.2.set x.2.1.toNat (y2, t0.2)).set x.2.1.toNat (((x.2.2.set x.2.1.toNat (y2, t0.2)).getD x.2.1.toNat (Ty.zero tVersion)).1, (y3, ((x.2.2.set x.2.1.toNat (y2, t0.2)).getD x.2.1.toNat (Ty.zero tVersion)).2.2))).getD x.2.1.toNat (Ty.zero tVersion)).1, ((((x.2.2.set x.2.1.toNat (y2, t0.2)).set x.2.1.toNat (((x.2.2.set x.2.1.toNat (y2, t0.2)).getD x.2.1.toNat (Ty.zero tVersion)).1, (y3, ((x.2.2.set x.2.1.toNat (y2, t0.2)).getD x.2.1.toNat (Ty.zero tVersion)).2.2))).getD x.2.1.toNat (Ty.zero tVersion)).2.1, (t2, (((x.2.2.set x.2.1.toNat (y2, t0.2)).set x.2.1.toNat (((x.2.2.set x.2.1.toNat (y2, t0.2)).getD x.2.1.toNat (Ty.zero tVersion)).1, (y3, ((x.2.2.set x.2.1.toNat (y2, t0.2)).getD x.2.1.toNat (Ty.zero tVersion)).2.2))).getD x.2.1.toNat (Ty.zero tVersion)).2.2.2)))).set x.2.1.toNat (((((x.2.2.set x.2.1.toNat (y2, t0.2)).set x.2.1.toNat (((x.2.2.set x.2.1.toNat (y2, t0.2)).getD x.2.1.toNat (Ty.zero tVersion)).1, (y3, ((x.2.2.set x.2.1.toNat (y2, t0.2)).getD x.2.1.toNat (Ty.zero tVersion)).2.2))).set x.2.1.toNat ((((x.2.2.set x.2.1.toNat (y2, t0.2)).set x.2.1.toNat (((x.2.2.set x.2.1.toNat (y2, t0.2)).getD x.2.1.toNat (Ty.zero tVersion)).1, (y3, ((x.2.2.set x.2.1.toNat (y2, t0.2)).getD x.2.1.toNat (Ty.zero tVersion)).2.2))).getD x.2.1.toNat (Ty.zero tVersion)).1, ((((x.2.2.set x.2.1.toNat (y2, t0.2)).set x.2.1.toNat (((x.2.2.set x.2.1.toNat (y2, t0.2)).getD x.2.1.toNat (Ty.zero tVersion)).1, (y3, ((x.2.2.set x.2.1.toNat (y2, t0.2)).getD x.2.1.toNat (Ty.zero tVersion)).2.2))).getD x.2.1.toNat (Ty.zero tVersion)).2.1, (t2, (((x.2.2.set x.2.1.toNat (y2, t0.2)).set x.2.1.toNat (((x.2.2.set x.2.1.toNat (y2, t0.2)).getD x.2.1.toNat (Ty.zero tVersion)).1, (y3, ((x.2.2.set x.2.1.toNat (y2, t0.2)).getD x.2.1.toNat (Ty.zero tVersion)).2.2))).getD x.2.1.toNat (Ty.zero tVersion)).2.2.2)))).getD x.2.1.toNat (Ty.zero tVersion)).1, (((((x.2.2.set x.2.1.toNat (y2, t0.2)).set x.2.1.toNat (((x.2.2.set x.2.1.toNat (y2, t0.2)).getD x.2.1.toNat (Ty.zero tVersion)).1, (y3, ((x.2.2.set x.2.1.toNat (y2, t0.2)).getD x.2.1.toNat (Ty.zero tVersion)).2.2))).set x.2.1.toNat ((((x.2.2.set x.2.1.toNat (y2, t0.2)).set x.2.1.toNat (((x.2.2.set x.2.1.toNat (y2, t0.2)).getD x.2.1.toNat (Ty.zero tVersion)).1, (y3, ((x.2.2.set x.2.1.toNat (y2, t0.2)).getD x.2.1.toNat (Ty.zero tVersion)).2.2))).getD x.2.1.toNat (Ty.zero tVersion)).1, ((((x.2.2.set x.2.1.toNat (y2, t0.2)).set x.2.1.toNat (((x.2.2.set x.2.1.toNat (y2, t0.2)).getD x.2.1.toNat (Ty.zero tVersion)).1, (y3, ((x.2.2.set x.2.1.toNat (y2, t0.2)).getD x.2.1.toNat (Ty.zero tVersion)).2.2))).getD x.2.1.toNat (Ty.zero tVersion)).2.1, (t2, (((x.2.2.set x.2.1.toNat (y2, t0.2)).set x.2.1.toNat (((x.2.2.set x.2.1.toNat (y2, t0.2)).getD x.2.1.toNat (Ty.zero tVersion)).1, (y3, ((x.2.2.set x.2.1.toNat (y2, t0.2)).getD x.2.1.toNat (Ty.zero tVersion)).2.2))).getD x.2.1.toNat (Ty.zero tVersion)).2.2.2)))).getD x.2.1.toNat (Ty.zero tVersion)).2.1, (((((x.2.2.set x.2.1.toNat (y2, t0.2)).set x.2.1.toNat (((x.2.2.set x.2.1.toNat (y2, t0.2)).getD x.2.1.toNat (Ty.zero tVersion)).1, (y3, ((x.2.2.set x.2.1.toNat (y2, t0.2)).getD x.2.1.toNat (Ty.zero tVersion)).2.2))).set x.2.1.toNat ((((x.2.2.set x.2.1.toNat (y2, t0.2)).set x.2.1.toNat (((x.2.2.set x.2.1.toNat (y2, t0.2)).getD x.2.1.toNat (Ty.zero tVersion)).1, (y3, ((x.2.2.set x.2.1.toNat (y2, t0.2)).getD x.2.1.toNat (Ty.zero tVersion)).2.2))).getD x.2.1.toNat (Ty.zero tVersion)).1, ((((x.2.2.set x.2.1.toNat (y2, t0.2)).set x.2.1.toNat (((x.2.2.set x.2.1.toNat (y2, t0.2)).getD x.2.1.toNat (Ty.zero tVersion)).1, (y3, ((x.2.2.set x.2.1.toNat (y2, t0.2)).getD x.2.1.toNat (Ty.zero tVersion)).2.2))).getD x.2.1.toNat (Ty.zero tVersion)).2.1, (t2, (((x.2.2.set x.2.1.toNat (y2, t0.2)).set x.2.1.toNat (((x.2.2.set x.2.1.toNat (y2, t0.2)).getD x.2.1.toNat (Ty.zero tVersion)).1, (y3, ((x.2.2.set x.2.1.toNat (y2, t0.2)).getD x.2.1.toNat (Ty.zero tVersion)).2.2))).getD x.2.1.toNat (Ty.zero tVersion)).2.2.2)))).getD x.2.1.toNat (Ty.zero tVersion)).2.2.1, (IntKind.wrap .i64 (t1 + 1))))))))
 else none
 else none
 else none)
 else none)
 else
 k (.inr (x.1, x.2.1, x.2.2))
instance n49n_bp0 (x : (Int × Int × (List vaa))) : ParC (vlg x) := by unfold vlg; (try dsimp only); infer_instance
def v9n (a0 : Int) (a1 : (List vaa)) (k : (Int × (List vaa)) → Option Res) : Option Res :=
 vae vlg Fuel (a0, 0, a1) (fun z1 =>
 k (z1.1, z1.2.2))
def v07 := shut v9n
theorem wej : v07 = v9n := vag _
instance n49n_p (a0 : Int) (a1 : (List vaa)) : ParC (v07 a0 a1) := by rw [wej]; unfold v9n; (try dsimp only); infer_instance
def vm7 (x : (Int × Int × (List vab))) (k : (Int × Int × (List vab)) ⊕ (Int × Int × (List vab)) → Option Res) : Option Res :=
 bif (decide (x.2.1 < (x.2.2.length : Int))) then
 vbk x.1 (fun y2 =>
 if 0 ≤ x.2.1 ∧ x.2.1 < (x.2.2.length : Int) then
 vbk (IntKind.wrap .i64 (x.1 + 1)) (fun y3 =>
 if 0 ≤ x.2.1 ∧ x.2.1 < ((x.2.2.set x.2.1.toNat (y2, (x.2.2.getD x.2.1.toNat (Ty.zero tRange)).2)).length : Int) then
 k (.inl ((IntKind.wrap .i64 ((IntKind.wrap .i64 (x.1 + 1)) + 1)), (IntKind.wrap .i64 (x.2.1 + 1)), ((x.2.2.set x.2.1.toNat (y2, (x.2.2.getD x.2.1.toNat (Ty.zero tRange)).2)).set x.2.1.toNat (((x.2.2.set x.2.1.toNat (y2, (x.2.2.getD x.2.1.toNat (Ty.zero tRange)).2)).getD x.2.1.toNat (Ty.zero tRange)).1, y3))))
 else none)
 else none)
 else
 k (.inr (x.1, x.2.1, x.2.2))
instance n46n_bp0 (x : (Int × Int × (List vab))) : ParC (vm7 x) := by unfold vm7; (try dsimp only); infer_instance
def v9c (a0 : Int) (a1 : (List vab)) (k : (Int × (List vab)) → Option Res) : Option Res :=
 vae vm7 Fuel (a0, 0, a1) (fun z1 =>
 k (z1.1, z1.2.2))
def v2p := shut v9c
theorem wgh : v2p = v9c := vag _
instance n46n_p (a0 : Int) (a1 : (List vab)) : ParC (v2p a0 a1) := by rw [wgh]; unfold v9c; (try dsimp only); infer_instance
def vms (x : (Int × Int × (List vaf))) (k : (Int × Int × (List vaf)) ⊕ (Int × Int × (List vaf)) → Option Res) : Option Res :=
 let t0 := (x.2.2.getD x.2.1.toNat (Ty.zero tWrite))
 bif (decide (x.2.1 < (x.2.2.length : Int))) then
 vbk x.1 (fun y2 =>
 if 0 ≤ x.2.1 ∧ x.2.1 < (x.2.2.length : Int) then
 vbk (IntKind.wrap .i64 (x.1 + 1)) (fun y3 =>
 if 0 ≤ x.2.1 ∧ x.2.1 < ((x.2.2.set x.2.1.toNat (y2, t0.2)).length : Int) then
 if 0 ≤ x.2.1 ∧ x.2.1 < (((x.2.2.set x.2.1.toNat (y2, t0.2)).set x.2.1.toNat (((x.2.2.set x.2.1.toNat (y2, t0.2)).getD x.2.1.toNat (Ty.zero tWrite)).1, (y3, ((x.2.2.set x.2.1.toNat (y2, t0.2)).getD x.2.1.toNat (Ty.zero tWrite)).2.2))).length : Int) then
 k (.inl ((IntKind.wrap .i64 ((IntKind.wrap .i64 ((IntKind.wrap .i64 (x.1 + 1)) + 1)) + 1)), (IntKind.wrap .i64 (x.2.1 + 1)), (((x.2.2.set x.2.1.toNat (y2, t0.2)).set x.2.1.toNat (((x.2.2.set x.2.1.toNat (y2, t0.2)).getD x.2.1.toNat (Ty.zero tWrite)).1, (y3, ((x.2.2.set x.2.1.toNat (y2, t0.2)).getD x.2.1.toNat (Ty.zero tWrite)).2.2))).set x.2.1.toNat ((((x.2.2.set x.2.1.toNat (y2, t0.2)).set x.2.1.toNat (((x.2.2.set x.2.1.toNat (y2, t0.2)).getD x.2.1.toNat (Ty.zero tWrite)).1, (y3, ((x.2.2.set x.2.1.toNat (y2, t0.2)).getD x.2.1.toNat (Ty.zero tWrite)).2.2))).getD x.2.1.toNat (Ty.zero tWrite)).1, ((((x.2.2.set x.2.1.toNat (y2, t0.2)).set x.2.1.toNat (((x.2.2.set x.2.1.toNat (y2, t0.2)).getD x.2.1.toNat (Ty.zero tWrite)).1, (y3, ((x.2.2.set x.2.1.toNat (y2, t0.2)).getD x.2.1.toNat (Ty.zero tWrite)).2.2))).getD x.2.1.toNat (Ty.zero tWrite)).2.1, (((IntKind.wrap .i64 ((IntKind.wrap .i64 (x.1 + 1)) + 1)).tmod (3 : Int)) == (0 : Int)))))))
 else none
 else none)
 else none)
 else
 k (.inr (x.1, x.2.1, x.2.2))
instance n50n_bp0 (x : (Int × Int × (List vaf))) : ParC (vms x) := by unfold vms; (try dsimp only); infer_instance
def v9w (a0 : Int) (a1 : (List vaf)) (k : (Int × (List vaf)) → Option Res) : Option Res :=
 vae vms Fuel (a0, 0, a1) (fun z1 =>
 k (z1.1, z1.2.2))
def v3c := shut v9w
theorem wcx : v3c = v9w := vag _
instance n50n_p (a0 : Int) (a1 : (List vaf)) : ParC (v3c a0 a1) := by rw [wcx]; unfold v9w; (try dsimp only); infer_instance
def vdr (x : (Int × Int × (List dTxn))) (k : (Int × Int × (List dTxn)) → Option Res) : Option Res :=
 k (x.1, (IntKind.wrap .i64 (x.2.1 + 1)), x.2.2)
instance n48n_jp5000003 (x : (Int × Int × (List dTxn))) : ParC (vdr x) := by unfold vdr; (try dsimp only); infer_instance
def vdi (x : (Int × Int × (List dTxn))) (k : (Int × Int × (List dTxn)) → Option Res) : Option Res :=
 k ((IntKind.wrap .i64 (x.1 + 1)), x.2.1, x.2.2)
instance n48n_jp5000017 (x : (Int × Int × (List dTxn))) : ParC (vdi x) := by unfold vdi; (try dsimp only); infer_instance
def vdo (x : (Int × Int × (List dTxn))) (k : (Int × Int × (List dTxn)) → Option Res) : Option Res :=
 vbk (IntKind.wrap .i64 (x.1 + 1)) (fun y10 =>
 if 0 ≤ x.2.1 ∧ x.2.1 < (x.2.2.length : Int) then
 vdi ((IntKind.wrap .i64 (x.1 + 1)), x.2.1, (x.2.2.set x.2.1.toNat ((x.2.2.getD x.2.1.toNat (Ty.zero tTxn)).1, ((x.2.2.getD x.2.1.toNat (Ty.zero tTxn)).2.1, ((x.2.2.getD x.2.1.toNat (Ty.zero tTxn)).2.2.1, ((x.2.2.getD x.2.1.toNat (Ty.zero tTxn)).2.2.2.1, ((x.2.2.getD x.2.1.toNat (Ty.zero tTxn)).2.2.2.2.1, ((x.2.2.getD x.2.1.toNat (Ty.zero tTxn)).2.2.2.2.2.1, ((x.2.2.getD x.2.1.toNat (Ty.zero tTxn)).2.2.2.2.2.2.1, y10))))))))) (fun z11 =>
 k (z11.1, z11.2.1, z11.2.2))
 else none)
instance n48n_jp5000015 (x : (Int × Int × (List dTxn))) : ParC (vdo x) := by unfold vdo; (try dsimp only); infer_instance
def vdj (x : (Int × Int × (List dTxn))) (k : (Int × Int × (List dTxn)) → Option Res) : Option Res :=
 let t0 := (x.2.2.getD x.2.1.toNat (Ty.zero tTxn))
 if 0 ≤ x.2.1 ∧ x.2.1 < (x.2.2.length : Int) then
 v2p (IntKind.wrap .i64 (x.1 + 1)) (t0.2.2.2.2.1) (fun y7 =>
 if 0 ≤ x.2.1 ∧ x.2.1 < ((x.2.2.set x.2.1.toNat (t0.1, (t0.2.1, (t0.2.2.1, (t0.2.2.2.1, (y7.2, t0.2.2.2.2.2)))))).length : Int) then
 v3c y7.1 (((x.2.2.set x.2.1.toNat (t0.1, (t0.2.1, (t0.2.2.1, (t0.2.2.2.1, (y7.2, t0.2.2.2.2.2)))))).getD x.2.1.toNat (Ty.zero tTxn)).2.2.2.2.2.1) (fun y8 =>
 if 0 ≤ x.2.1 ∧ x.2.1 < (((x.2.2.set x.2.1.toNat (t0.1, (t0.2.1, (t0.2.2.1, (t0.2.2.2.1, (y7.2, t0.2.2.2.2.2)))))).set x.2.1.toNat (((x.2.2.set x.2.1.toNat (t0.1, (t0.2.1, (t0.2.2.1, (t0.2.2.2.1, (y7.2, t0.2.2.2.2.2)))))).getD x.2.1.toNat (Ty.zero tTxn)).1, (((x.2.2.set x.2.1.toNat (t0.1, (t0.2.1, (t0.2.2.1, (t0.2.2.2.1, (y7.2, t0.2.2.2.2.2)))))).getD x.2.1.toNat (Ty.zero tTxn)).2.1, (((x.2.2.set x.2.1.toNat (t0.1, (t0.2.1, (t0.2.2.1, (t0.2.2.2.1, (y7.2, t0.2.2.2.2.2)))))).getD x.2.1.toNat (Ty.zero tTxn)).2.2.1, (((x.2.2.set x.2.1.toNat (t0.1, (t0.2.1, (t0.2.2.1, (t0.2.2.2.1, (y7.2, t0.2.2.2.2.2)))))).getD x.2.1.toNat (Ty.zero tTxn)).2.2.2.1, (((x.2.2.set x.2.1.toNat (t0.1, (t0.2.1, (t0.2.2.1, (t0.2.2.2.1, (y7.2, t0.2.2.2.2.2)))))).getD x.2.1.toNat (Ty.zero tTxn)).2.2.2.2.1, (y8.2, ((x.2.2.set x.2.1.toNat (t0.1, (t0.2.1, (t0.2.2.1, (t0.2.2.2.1, (y7.2, t0.2.2.2.2.2)))))).getD x.2.1.toNat (Ty.zero tTxn)).2.2.2.2.2.2))))))).length : Int) then
 vdo (y8.1, x.2.1, (((x.2.2.set x.2.1.toNat (t0.1, (t0.2.1, (t0.2.2.1, (t0.2.2.2.1, (y7.2, t0.2.2.2.2.2)))))).set x.2.1.toNat (((x.2.2.set x.2.1.toNat (t0.1, (t0.2.1, (t0.2.2.1, (t0.2.2.2.1, (y7.2, t0.2.2.2.2.2)))))).getD x.2.1.toNat (Ty.zero tTxn)).1, (((x.2.2.set x.2.1.toNat (t0.1, (t0.2.1, (t0.2.2.1, (t0.2.2.2.1, (y7.2, t0.2.2.2.2.2)))))).getD x.2.1.toNat (Ty.zero tTxn)).2.1, (((x.2.2.set x.2.1.toNat (t0.1, (t0.2.1, (t0.2.2.1, (t0.2.2.2.1, (y7.2, t0.2.2.2.2.2)))))).getD x.2.1.toNat (Ty.zero tTxn)).2.2.1, (((x.2.2.set x.2.1.toNat (t0.1, (t0.2.1, (t0.2.2.1, (t0.2.2.2.1, (y7.2, t0.2.2.2.2.2)))))).getD x.2.1.toNat (Ty.zero tTxn)).2.2.2.1, (((x.2.2.set x.2.1.toNat (t0.1, (t0.2.1, (t0.2.2.1, (t0.2.2.2.1, (y7.2, t0.2.2.2.2.2)))))).getD x.2.1.toNat (Ty.zero tTxn)).2.2.2.2.1, (y8.2, ((x.2.2.set x.2.1.toNat (t0.1, (t0.2.1, (t0.2.2.1, (t0.2.2.2.1, (y7.2, t0.2.2.2.2.2)))))).getD x.2.1.toNat (Ty.zero tTxn)).2.2.2.2.2.2))))))).set x.2.1.toNat ((((x.2.2.set x.2.1.toNat (t0.1, (t0.2.1, (t0.2.2.1, (t0.2.2.2.1, (y7.2, t0.2.2.2.2.2)))))).set x.2.1.toNat (((x.2.2.set x.2.1.toNat (t0.1, (t0.2.1, (t0.2.2.1, (t0.2.2.2.1, (y7.2, t0.2.2.2.2.2)))))).getD x.2.1.toNat (Ty.zero tTxn)).1, (((x.2.2.set x.2.1.toNat (t0.1, (t0.2.1, (t0.2.2.1, (t0.2.2.2.1, (y7.2, t0.2.2.2.2.2)))))).getD x.2.1.toNat (Ty.zero tTxn)).2.1, (((x.2.2.set x.2.1.toNat (t0.1, (t0.2.1, (t0.2.2.1, (t0.2.2.2.1, (y7.2, t0.2.2.2.2.2)))))).getD x.2.1.toNat (Ty.zero tTxn)).2.2.1, (((x.2.2.set x.2.1.toNat (t0.1, (t0.2.1, (t0.2.2.1, (t0.2.2.2.1, (y7.2, t0.2.2.2.2.2)))))).getD x.2.1.toNat (Ty.zero tTxn)).2.2.2.1, (((x.2.2.set x.2.1.toNat (t0.1, (t0.2.1, (t0.2.2.1, (t0.2.2.2.1, (y7.2, t0.2.2.2.2.2)))))).getD x.2.1.toNat (Ty.zero tTxn)).2.2.2.2.1, (y8.2, ((x.2.2.set x.2.1.toNat (t0.1, (t0.2.1, (t0.2.2.1, (t0.2.2.2.1, (y7.2, t0.2.2.2.2.2)))))).getD x.2.1.toNat (Ty.zero tTxn)).2.2.2.2.2.2))))))).getD x.2.1.toNat (Ty.zero tTxn)).1, ((((x.2.2.set x.2.1.toNat (t0.1, (t0.2.1, (t0.2.2.1, (t0.2.2.2.1, (y7.2, t0.2.2.2.2.2)))))).set x.2.1.toNat (((x.2.2.set x.2.1.toNat (t0.1, (t0.2.1, (t0.2.2.1, (t0.2.2.2.1, (y7.2, t0.2.2.2.2.2)))))).getD x.2.1.toNat (Ty.zero tTxn)).1, (((x.2.2.set x.2.1.toNat (t0.1, (t0.2.1, (t0.2.2.1, (t0.2.2.2.1, (y7.2, t0.2.2.2.2.2)))))).getD x.2.1.toNat (Ty.zero tTxn)).2.1, (((x.2.2.set x.2.1.toNat (t0.1, (t0.2.1, (t0.2.2.1, (t0.2.2.2.1, (y7.2, t0.2.2.2.2.2)))))).getD x.2.1.toNat (Ty.zero tTxn)).2.2.1, (((x.2.2.set x.2.1.toNat (t0.1, (t0.2.1, (t0.2.2.1, (t0.2.2.2.1, (y7.2, t0.2.2.2.2.2)))))).getD x.2.1.toNat (Ty.zero tTxn)).2.2.2.1, (((x.2.2.set x.2.1.toNat (t0.1, (t0.2.1, (t0.2.2.1, (t0.2.2.2.1, (y7.2, t0.2.2.2.2.2)))))).getD x.2.1.toNat (Ty.zero tTxn)).2.2.2.2.1, (y8.2, ((x.2.2.set x.2.1.toNat (t0.1, (t0.2.1, (t0.2.2.1, (t0.2.2.2.1, (y7.2, t0.2.2.2.2.2)))))).getD x.2.1.toNat (Ty.zero tTxn)).2.2.2.2.2.2))))))).getD x.2.1.toNat (Ty.zero tTxn)).2.1, ((((x.2.2.set x.2.1.toNat (t0.1, (t0.2.1, (t0.2.2.1, (t0.2.2.2.1, (y7.2, t0.2.2.2.2.2)))))).set x.2.1.toNat (((x.2.2.set x.2.1.toNat (t0.1, (t0.2.1, (t0.2.2.1, (t0.2.2.2.1, (y7.2, t0.2.2.2.2.2)))))).getD x.2.1.toNat (Ty.zero tTxn)).1, (((x.2.2.set x.2.1.toNat (t0.1, (t0.2.1, (t0.2.2.1, (t0.2.2.2.1, (y7.2, t0.2.2.2.2.2)))))).getD x.2.1.toNat (Ty.zero tTxn)).2.1, (((x.2.2.set x.2.1.toNat (t0.1, (t0.2.1, (t0.2.2.1, (t0.2.2.2.1, (y7.2, t0.2.2.2.2.2)))))).getD x.2.1.toNat (Ty.zero tTxn)).2.2.1, (((x.2.2.set x.2.1.toNat (t0.1, (t0.2.1, (t0.2.2.1, (t0.2.2.2.1, (y7.2, t0.2.2.2.2.2)))))).getD x.2.1.toNat (Ty.zero tTxn)).2.2.2.1, (((x.2.2.set x.2.1.toNat (t0.1, (t0.2.1, (t0.2.2.1, (t0.2.2.2.1, (y7.2, t0.2.2.2.2.2)))))).getD x.2.1.toNat (Ty.zero tTxn)).2.2.2.2.1, (y8.2, ((x.2.2.set x.2.1.toNat (t0.1, (t0.2.1, (t0.2.2.1, (t0.2.2.2.1, (y7.2, t0.2.2.2.2.2)))))).getD x.2.1.toNat (Ty.zero tTxn)).2.2.2.2.2.2))))))).getD x.2.1.toNat (Ty.zero tTxn)).2.2.1, ((((x.2.2.set x.2.1.toNat (t0.1, (t0.2.1, (t0.2.2.1, (t0.2.2.2.1, (y7.2, t0.2.2.2.2.2)))))).set x.2.1.toNat (((x.2.2.set x.2.1.toNat (t0.1, (t0.2.1, (t0.2.2.1, (t0.2.2.2.1, (y7.2, t0.2.2.2.2.2)))))).getD x.2.1.toNat (Ty.zero tTxn)).1, (((x.2.2.set x.2.1.toNat (t0.1, (t0.2.1, (t0.2.2.1, (t0.2.2.2.1, (y7.2, t0.2.2.2.2.2)))))).getD x.2.1.toNat (Ty.zero tTxn)).2.1, (((x.2.2.set x.2.1.toNat (t0.1, (t0.2.1, (t0.2.2.1, (t0.2.2.2.1, (y7.2, t0.2.2.2.2.2)))))).getD x.2.1.toNat (Ty.zero tTxn)).2.2.1, (((x.2.2.set x.2.1.toNat (t0.1, (t0.2.1, (t0.2.2.1, (t0.2.2.2.1, (y7.2, t0.2.2.2.2.2)))))).getD x.2.1.toNat (Ty.zero tTxn)).2.2.2.1, (((x.2.2.set x.2.1.toNat (t0.1, (t0.2.1, (t0.2.2.1, (t0.2.2.2.1, (y7.2, t0.2.2.2.2.2)))))).getD x.2.1.toNat (Ty.zero tTxn)).2.2.2.2.1, (y8.2, ((x.2.2.set x.2.1.toNat (t0.1, (t0.2.1, (t0.2.2.1, (t0.2.2.2.1, (y7.2, t0.2.2.2.2.2)))))).getD x.2.1.toNat (Ty.zero tTxn)).2.2.2.2.2.2))))))).getD x.2.1.toNat (Ty.zero tTxn)).2.2.2.1, ((((x.2.2.set x.2.1.toNat (t0.1, (t0.2.1, (t0.2.2.1, (t0.2.2.2.1, (y7.2, t0.2.2.2.2.2)))))).set x.2.1.toNat (((x.2.2.set x.2.1.toNat (t0.1, (t0.2.1, (t0.2.2.1, (t0.2.2.2.1, (y7.2, t0.2.2.2.2.2)))))).getD x.2.1.toNat (Ty.zero tTxn)).1, (((x.2.2.set x.2.1.toNat (t0.1, (t0.2.1, (t0.2.2.1, (t0.2.2.2.1, (y7.2, t0.2.2.2.2.2)))))).getD x.2.1.toNat (Ty.zero tTxn)).2.1, (((x.2.2.set x.2.1.toNat (t0.1, (t0.2.1, (t0.2.2.1, (t0.2.2.2.1, (y7.2, t0.2.2.2.2.2)))))).getD x.2.1.toNat (Ty.zero tTxn)).2.2.1, (((x.2.2.set x.2.1.toNat (t0.1, (t0.2.1, (t0.2.2.1, (t0.2.2.2.1, (y7.2, t0.2.2.2.2.2)))))).getD x.2.1.toNat (Ty.zero tTxn)).2.2.2.1, (((x.2.2.set x.2.1.toNat (t0.1, (t0.2.1, (t0.2.2.1, (t0.2.2.2.1, (y7.2, t0.2.2.2.2.2)))))).getD x.2.1.toNat (Ty.zero tTxn)).2.2.2.2.1, (y8.2, ((x.2.2.set x.2.1.toNat (t0.1, (t0.2.1, (t0.2.2.1, (t0.2.2.2.1, (y7.2, t0.2.2.2.2.2)))))).getD x.2.1.toNat (Ty.zero tTxn)).2.2.2.2.2.2))))))).getD x.2.1.toNat (Ty.zero tTxn)).2.2.2.2.1, ((((x.2.2.set x.2.1.toNat (t0.1, (t0.2.1, (t0.2.2.1, (t0.2.2.2.1, (y7.2, t0.2.2.2.2.2)))))).set x.2.1.toNat (((x.2.2.set x.2.1.toNat (t0.1, (t0.2.1, (t0.2.2.1, (t0.2.2.2.1, (y7.2, t0.2.2.2.2.2)))))).getD x.2.1.toNat (Ty.zero tTxn)).1, (((x.2.2.set x.2.1.toNat (t0.1, (t0.2.1, (t0.2.2.1, (t0.2.2.2.1, (y7.2, t0.2.2.2.2.2)))))).getD x.2.1.toNat (Ty.zero tTxn)).2.1, (((x.2.2.set x.2.1.toNat (t0.1, (t0.2.1, (t0.2.2.1, (t0.2.2.2.1, (y7.2, t0.2.2.2.2.2)))))).getD x.2.1.toNat (Ty.zero tTxn)).2.2.1, (((x.2.2.set x.2.1.toNat (t0.1, (t0.2.1, (t0.2.2.1, (t0.2.2.2.1, (y7.2, t0.2.2.2.2.2)))))).getD x.2.1.toNat (Ty.zero tTxn)).2.2.2.1, (((x.2.2.set x.2.1.toNat (t0.1, (t0.2.1, (t0.2.2.1, (t0.2.2.2.1, (y7.2, t0.2.2.2.2.2)))))).getD x.2.1.toNat (Ty.zero tTxn)).2.2.2.2.1, (y8.2, ((x.2.2.set x.2.1.toNat (t0.1, (t0.2.1, (t0.2.2.1, (t0.2.2.2.1, (y7.2, t0.2.2.2.2.2)))))).getD x.2.1.toNat (Ty.zero tTxn)).2.2.2.2.2.2))))))).getD x.2.1.toNat (Ty.zero tTxn)).2.2.2.2.2.1, (((y8.1.tmod (3 : Int)) == (0 : Int)), (((x.2.2.set x.2.1.toNat (t0.1, (t0.2.1, (t0.2.2.1, (t0.2.2.2.1, (y7.2, t0.2.2.2.2.2)))))).set x.2.1.toNat (((x.2.2.set x.2.1.toNat (t0.1, (t0.2.1, (t0.2.2.1, (t0.2.2.2.1, (y7.2, t0.2.2.2.2.2)))))).getD x.2.1.toNat (Ty.zero tTxn)).1, (((x.2.2.set x.2.1.toNat (t0.1, (t0.2.1, (t0.2.2.1, (t0.2.2.2.1, (y7.2, t0.2.2.2.2.2)))))).getD x.2.1.toNat (Ty.zero tTxn)).2.1, (((x.2.2.set x.2.1.toNat (t0.1, (t0.2.1, (t0.2.2.1, (t0.2.2.2.1, (y7.2, t0.2.2.2.2.2)))))).getD x.2.1.toNat (Ty.zero tTxn)).2.2.1, (((x.2.2.set x.2.1.toNat (t0.1, (t0.2.1, (t0.2.2.1, (t0.2.2.2.1, (y7.2, t0.2.2.2.2.2)))))).getD x.2.1.toNat (Ty.zero tTxn)).2.2.2.1, (((x.2.2.set x.2.1.toNat (t0.1, (t0.2.1, (t0.2.2.1, (t0.2.2.2.1, (y7.2, t0.2.2.2.2.2)))))).getD x.2.1.toNat (Ty.zero tTxn)).2.2.2.2.1, (y8.2, ((x.2.2.set x.2.1.toNat (t0.1, (t0.2.1, (t0.2.2.1, (t0.2.2.2.1, (y7.2, t0.2.2.2.2.2)))))).getD x.2.1.toNat (Ty.zero tTxn)).2.2.2.2.2.2))))))).getD x.2.1.toNat (Ty.zero tTxn)).2.2.2.2.2.2.2))))))))) (fun z9 =>
 k (z9.1, z9.2.1, z9.2.2))
 else none)
 else none)
 else none
instance n48n_jp5000011 (x : (Int × Int × (List dTxn))) : ParC (vdj x) := by unfold vdj; (try dsimp only); infer_instance
def vdv (x : (Int × Int × (List dTxn))) (k : (Int × Int × (List dTxn)) → Option Res) : Option Res :=
 if 0 ≤ x.2.1 ∧ x.2.1 < (x.2.2.length : Int) then
 vdj ((IntKind.wrap .i64 (x.1 + 1)), x.2.1, (x.2.2.set x.2.1.toNat ((x.2.2.getD x.2.1.toNat (Ty.zero tTxn)).1, ((x.2.2.getD x.2.1.toNat (Ty.zero tTxn)).2.1, ((x.2.2.getD x.2.1.toNat (Ty.zero tTxn)).2.2.1, ((IntKind.wrap .i64 (x.1 + 1)), (x.2.2.getD x.2.1.toNat (Ty.zero tTxn)).2.2.2.2)))))) (fun z6 =>
 k (z6.1, z6.2.1, z6.2.2))
 else none
instance n48n_jp5000009 (x : (Int × Int × (List dTxn))) : ParC (vdv x) := by unfold vdv; (try dsimp only); infer_instance
def vdn (x : (Int × Int × (List dTxn))) (k : (Int × Int × (List dTxn)) → Option Res) : Option Res :=
 if 0 ≤ x.2.1 ∧ x.2.1 < (x.2.2.length : Int) then
 vdv ((IntKind.wrap .i64 (x.1 + 1)), x.2.1, (x.2.2.set x.2.1.toNat ((x.2.2.getD x.2.1.toNat (Ty.zero tTxn)).1, ((x.2.2.getD x.2.1.toNat (Ty.zero tTxn)).2.1, ((IntKind.wrap .i64 (x.1 + 1)), (x.2.2.getD x.2.1.toNat (Ty.zero tTxn)).2.2.2))))) (fun z5 =>
 k (z5.1, z5.2.1, z5.2.2))
 else none
instance n48n_jp5000007 (x : (Int × Int × (List dTxn))) : ParC (vdn x) := by unfold vdn; (try dsimp only); infer_instance
def vdt (x : (Int × Int × (List dTxn))) (k : (Int × Int × (List dTxn)) → Option Res) : Option Res :=
 if 0 ≤ x.2.1 ∧ x.2.1 < (x.2.2.length : Int) then
 vdn ((IntKind.wrap .i64 (x.1 + 1)), x.2.1, (x.2.2.set x.2.1.toNat ((x.2.2.getD x.2.1.toNat (Ty.zero tTxn)).1, ((IntKind.wrap .i64 (x.1 + 1)), (x.2.2.getD x.2.1.toNat (Ty.zero tTxn)).2.2)))) (fun z4 =>
 k (z4.1, z4.2.1, z4.2.2))
 else none
instance n48n_jp5000005 (x : (Int × Int × (List dTxn))) : ParC (vdt x) := by unfold vdt; (try dsimp only); infer_instance
def vjb (x : (Int × Int × (List dTxn))) (k : (Int × Int × (List dTxn)) ⊕ (Int × Int × (List dTxn)) → Option Res) : Option Res :=
 bif (decide (x.2.1 < (x.2.2.length : Int))) then
 if 0 ≤ x.2.1 ∧ x.2.1 < (x.2.2.length : Int) then
 vdt (x.1, x.2.1, (x.2.2.set x.2.1.toNat (x.1, (x.2.2.getD x.2.1.toNat (Ty.zero tTxn)).2))) (fun z2 =>
 vdr (z2.1, z2.2.1, z2.2.2) (fun z3 =>
 k (.inl (z3.1, z3.2.1, z3.2.2))))
 else none
 else
 k (.inr (x.1, x.2.1, x.2.2))
instance n48n_bp0 (x : (Int × Int × (List dTxn))) : ParC (vjb x) := by unfold vjb; (try dsimp only); infer_instance
def v8r (a0 : Int) (a1 : (List dTxn)) (k : (Int × (List dTxn)) → Option Res) : Option Res :=
 vae vjb Fuel (a0, 0, a1) (fun z1 =>
 k (z1.1, z1.2.2))
def vr7 := shut v8r
theorem wgv : vr7 = v8r := vag _
instance n48n_p (a0 : Int) (a1 : (List dTxn)) : ParC (vr7 a0 a1) := by rw [wgv]; unfold v8r; (try dsimp only); infer_instance
def v74 (a0 : Int) (a1 : Int) (a2 : Int) (a3 : (List vaa)) (a4 : (List dTxn)) (a5 : (List dTxn)) (k : q40T → Option Res) : Option Res :=
 v07 a2 a3 (fun y1 =>
 vr7 y1.1 a4 (fun y2 =>
 vr7 y2.1 a5 (fun y3 =>
 k (y3.1, y1.2, y2.2, y3.2))))
def v2e := shut v74
theorem wdl : v2e = v74 := vag _
instance n43n_p (a0 : Int) (a1 : Int) (a2 : Int) (a3 : (List vaa)) (a4 : (List dTxn)) (a5 : (List dTxn)) : ParC (v2e a0 a1 a2 a3 a4 a5) := by rw [wdl]; unfold v74; (try dsimp only); infer_instance
def v6h (a0 : Int) (a1 : Int) (a2 : Int) (a3 : (List vaa)) (a4 : (List dTxn)) (a5 : (List dTxn)) (a6 : (List dTxn)) (k : q39T → Option Res) : Option Res :=
 v2e a0 a1 a2 a3 a4 a5 (fun y1 =>
 vr7 y1.1 a6 (fun y2 =>
 k (y2.1, y1.2.1, y1.2.2.1, y1.2.2.2, y2.2)))
def vo6 := shut v6h
theorem wew : vo6 = v6h := vag _
instance n44n_p (a0 : Int) (a1 : Int) (a2 : Int) (a3 : (List vaa)) (a4 : (List dTxn)) (a5 : (List dTxn)) (a6 : (List dTxn)) : ParC (vo6 a0 a1 a2 a3 a4 a5 a6) := by rw [wew]; unfold v6h; (try dsimp only); infer_instance
def vm2 (x : (Int × Int × (List vab))) (k : (Int × Int × (List vab)) ⊕ (Int × Int × (List vab)) → Option Res) : Option Res :=
 bif (decide (x.2.1 < (x.2.2.length : Int))) then
 vbk x.1 (fun y2 =>
 if 0 ≤ x.2.1 ∧ x.2.1 < (x.2.2.length : Int) then
 vbk (IntKind.wrap .i64 (x.1 + 1)) (fun y3 =>
 if 0 ≤ x.2.1 ∧ x.2.1 < ((x.2.2.set x.2.1.toNat (y2, (x.2.2.getD x.2.1.toNat (Ty.zero tRange)).2)).length : Int) then
 k (.inl ((IntKind.wrap .i64 ((IntKind.wrap .i64 (x.1 + 1)) + 1)), (IntKind.wrap .i64 (x.2.1 + 1)), ((x.2.2.set x.2.1.toNat (y2, (x.2.2.getD x.2.1.toNat (Ty.zero tRange)).2)).set x.2.1.toNat (((x.2.2.set x.2.1.toNat (y2, (x.2.2.getD x.2.1.toNat (Ty.zero tRange)).2)).getD x.2.1.toNat (Ty.zero tRange)).1, y3))))
 else none)
 else none)
 else
 k (.inr (x.1, x.2.1, x.2.2))
instance n45n_bp0 (x : (Int × Int × (List vab))) : ParC (vm2 x) := by unfold vm2; (try dsimp only); infer_instance
def v9h (a0 : Int) (a1 : (List vab)) (k : (Int × (List vab)) → Option Res) : Option Res :=
 vae vm2 Fuel (a0, 0, a1) (fun z1 =>
 k (z1.1, z1.2.2))
def vvr := shut v9h
theorem wd6 : vvr = v9h := vag _
instance n45n_p (a0 : Int) (a1 : (List vab)) : ParC (vvr a0 a1) := by rw [wd6]; unfold v9h; (try dsimp only); infer_instance
def vjw (x : q21T) (k : q21T ⊕ (q21T ⊕ q21T) → Option Res) : Option Res :=
 let t0 := (IntKind.wrap .i64 ((IntKind.wrap .i64 (x.2.1 + (1 : Int))) + (1 : Int)))
 let t1 := (rd (Ty.zero tVersion) x.1 x.2.2.2)
 bif (decide (x.2.2.2 < (x.1.length : Int))) then
 if 0 ≤ x.2.2.2 ∧ x.2.2.2 < (x.1.length : Int) then
 vbk x.2.1 (fun y3 =>
 bif (!(vas (t1.1) y3)) then
 k (.inr (.inl (x.1, x.2.1, (-1 : Int), x.2.2.2)))
 else
 if 0 ≤ x.2.2.2 ∧ x.2.2.2 < (x.1.length : Int) then
 vbk (IntKind.wrap .i64 (x.2.1 + 1)) (fun y4 =>
 bif (!(vas (t1.2.1) y4)) then
 k (.inr (.inl (x.1, (IntKind.wrap .i64 (x.2.1 + 1)), (-1 : Int), x.2.2.2)))
 else
 if 0 ≤ x.2.2.2 ∧ x.2.2.2 < (x.1.length : Int) then
 bif (!(t1.2.2.1 == ((t0.tmod (3 : Int)) == (0 : Int)))) then
 k (.inr (.inl (x.1, t0, (-1 : Int), x.2.2.2)))
 else
 if 0 ≤ x.2.2.2 ∧ x.2.2.2 < (x.1.length : Int) then
 bif (t1.2.2.2 != (IntKind.wrap .i64 (t0 + 1))) then
 k (.inr (.inl (x.1, (IntKind.wrap .i64 (t0 + 1)), (-1 : Int), x.2.2.2)))
 else
 k (.inl (x.1, (IntKind.wrap .i64 ((IntKind.wrap .i64 (t0 + 1)) + 1)), x.2.2.1, (IntKind.wrap .i64 (x.2.2.2 + 1))))
 else none
 else none)
 else none)
 else none
 else
 k (.inr (.inr (x.1, x.2.1, x.2.2.1, x.2.2.2)))
instance n41n_bp0 (x : q21T) : ParC (vjw x) := by unfold vjw; (try dsimp only); infer_instance
def v6x (a0 : (List vaa)) (a1 : Int) (k : Int → Option Res) : Option Res :=
 vae vjw Fuel (a0, a1, 0, 0) (Sum.elim (fun z1 =>
 k z1.2.2.1) (fun z2 =>
 k z2.2.1))
def vxf := shut v6x
theorem wdo : vxf = v6x := vag _
instance n41n_p (a0 : (List vaa)) (a1 : Int) : ParC (vxf a0 a1) := by rw [wdo]; unfold v6x; (try dsimp only); infer_instance
def vkc (x : q3T) (k : q3T ⊕ (q3T ⊕ q3T) → Option Res) : Option Res :=
 bif (decide (x.2.2.2 < (x.1.length : Int))) then
 if 0 ≤ x.2.2.2 ∧ x.2.2.2 < (x.1.length : Int) then
 vbk x.2.1 (fun y3 =>
 bif (!(vas ((rd (Ty.zero tRange) x.1 x.2.2.2).1) y3)) then
 k (.inr (.inl (x.1, x.2.1, (-1 : Int), x.2.2.2)))
 else
 if 0 ≤ x.2.2.2 ∧ x.2.2.2 < (x.1.length : Int) then
 vbk (IntKind.wrap .i64 (x.2.1 + 1)) (fun y4 =>
 bif (!(vas ((rd (Ty.zero tRange) x.1 x.2.2.2).2) y4)) then
 k (.inr (.inl (x.1, (IntKind.wrap .i64 (x.2.1 + 1)), (-1 : Int), x.2.2.2)))
 else
 k (.inl (x.1, (IntKind.wrap .i64 ((IntKind.wrap .i64 (x.2.1 + 1)) + 1)), x.2.2.1, (IntKind.wrap .i64 (x.2.2.2 + 1)))))
 else none)
 else none
 else
 k (.inr (.inr (x.1, x.2.1, x.2.2.1, x.2.2.2)))
instance n39n_bp0 (x : q3T) : ParC (vkc x) := by unfold vkc; (try dsimp only); infer_instance
def v8p (a0 : (List vab)) (a1 : Int) (k : Int → Option Res) : Option Res :=
 vae vkc Fuel (a0, a1, 0, 0) (Sum.elim (fun z1 =>
 k z1.2.2.1) (fun z2 =>
 k z2.2.1))
def vrb := shut v8p
theorem wdi : vrb = v8p := vag _
instance n39n_p (a0 : (List vab)) (a1 : Int) : ParC (vrb a0 a1) := by rw [wdi]; unfold v8p; (try dsimp only); infer_instance
def vjq (x : q26T) (k : q26T ⊕ (q26T ⊕ q26T) → Option Res) : Option Res :=
 let t0 := (IntKind.wrap .i64 (x.2.1 + (1 : Int)))
 bif (decide (x.2.2.2 < (x.1.length : Int))) then
 if 0 ≤ x.2.2.2 ∧ x.2.2.2 < (x.1.length : Int) then
 vbk x.2.1 (fun y3 =>
 bif (!(vas ((rd (Ty.zero tWrite) x.1 x.2.2.2).1) y3)) then
 k (.inr (.inl (x.1, x.2.1, (-1 : Int), x.2.2.2)))
 else
 if 0 ≤ x.2.2.2 ∧ x.2.2.2 < (x.1.length : Int) then
 vbk t0 (fun y4 =>
 bif (!(vas ((rd (Ty.zero tWrite) x.1 x.2.2.2).2.1) y4)) then
 k (.inr (.inl (x.1, t0, (-1 : Int), x.2.2.2)))
 else
 if 0 ≤ x.2.2.2 ∧ x.2.2.2 < (x.1.length : Int) then
 bif (!((rd (Ty.zero tWrite) x.1 x.2.2.2).2.2 == (((IntKind.wrap .i64 (t0 + 1)).tmod (3 : Int)) == (0 : Int)))) then
 k (.inr (.inl (x.1, (IntKind.wrap .i64 (t0 + 1)), (-1 : Int), x.2.2.2)))
 else
 k (.inl (x.1, (IntKind.wrap .i64 ((IntKind.wrap .i64 (t0 + 1)) + 1)), x.2.2.1, (IntKind.wrap .i64 (x.2.2.2 + 1))))
 else none)
 else none)
 else none
 else
 k (.inr (.inr (x.1, x.2.1, x.2.2.1, x.2.2.2)))
instance n42n_bp0 (x : q26T) : ParC (vjq x) := by unfold vjq; (try dsimp only); infer_instance
def v8d (a0 : (List vaf)) (a1 : Int) (k : Int → Option Res) : Option Res :=
 vae vjq Fuel (a0, a1, 0, 0) (Sum.elim (fun z1 =>
 k z1.2.2.1) (fun z2 =>
 k z2.2.1))
def vst := shut v8d
theorem wfb : vst = v8d := vag _
instance n42n_p (a0 : (List vaf)) (a1 : Int) : ParC (vst a0 a1) := by rw [wfb]; unfold v8d; (try dsimp only); infer_instance
def vkr (x : q8T) (k : q8T ⊕ (q8T ⊕ q8T) → Option Res) : Option Res :=
 let t0 := (IntKind.wrap .i64 ((IntKind.wrap .i64 (x.2.1 + (1 : Int))) + (1 : Int)))
 let t1 := (rd (Ty.zero tTxn) x.1 x.2.2.2)
 bif (decide (x.2.2.2 < (x.1.length : Int))) then
 if 0 ≤ x.2.2.2 ∧ x.2.2.2 < (x.1.length : Int) then
 bif (t1.1 != x.2.1) then
 k (.inr (.inl (x.1, x.2.1, (-1 : Int), x.2.2.2)))
 else
 if 0 ≤ x.2.2.2 ∧ x.2.2.2 < (x.1.length : Int) then
 bif (t1.2.1 != (IntKind.wrap .i64 (x.2.1 + 1))) then
 k (.inr (.inl (x.1, (IntKind.wrap .i64 (x.2.1 + 1)), (-1 : Int), x.2.2.2)))
 else
 if 0 ≤ x.2.2.2 ∧ x.2.2.2 < (x.1.length : Int) then
 bif (t1.2.2.1 != t0) then
 k (.inr (.inl (x.1, t0, (-1 : Int), x.2.2.2)))
 else
 if 0 ≤ x.2.2.2 ∧ x.2.2.2 < (x.1.length : Int) then
 bif (t1.2.2.2.1 != (IntKind.wrap .i64 (t0 + 1))) then
 k (.inr (.inl (x.1, (IntKind.wrap .i64 (t0 + 1)), (-1 : Int), x.2.2.2)))
 else
 if 0 ≤ x.2.2.2 ∧ x.2.2.2 < (x.1.length : Int) then
 vrb (t1.2.2.2.2.1) (IntKind.wrap .i64 ((IntKind.wrap .i64 (t0 + 1)) + 1)) (fun y3 =>
 bif (decide (y3 < 0)) then
 k (.inr (.inl (x.1, y3, (-1 : Int), x.2.2.2)))
 else
 if 0 ≤ x.2.2.2 ∧ x.2.2.2 < (x.1.length : Int) then
 vst (t1.2.2.2.2.2.1) y3 (fun y4 =>
 bif (decide (y4 < 0)) then
 k (.inr (.inl (x.1, y4, (-1 : Int), x.2.2.2)))
 else
 if 0 ≤ x.2.2.2 ∧ x.2.2.2 < (x.1.length : Int) then
 bif (!(t1.2.2.2.2.2.2.1 == ((y4.tmod (3 : Int)) == (0 : Int)))) then
 k (.inr (.inl (x.1, y4, (-1 : Int), x.2.2.2)))
 else
 if 0 ≤ x.2.2.2 ∧ x.2.2.2 < (x.1.length : Int) then
 vbk (IntKind.wrap .i64 (y4 + 1)) (fun y5 =>
 bif (!(vas (t1.2.2.2.2.2.2.2) y5)) then
 k (.inr (.inl (x.1, (IntKind.wrap .i64 (y4 + 1)), (-1 : Int), x.2.2.2)))
 else
 k (.inl (x.1, (IntKind.wrap .i64 ((IntKind.wrap .i64 (y4 + 1)) + 1)), x.2.2.1, (IntKind.wrap .i64 (x.2.2.2 + 1)))))
 else none
 else none)
 else none)
 else none
 else none
 else none
 else none
 else none
 else
 k (.inr (.inr (x.1, x.2.1, x.2.2.1, x.2.2.2)))
instance n40n_bp0 (x : q8T) : ParC (vkr x) := by unfold vkr; (try dsimp only); exact ⟨(vam (vfn (vam (vah _) (vfn (vam (vah _) (vfn (vam (vah _) (vfn (vam (vah _) (vfn ((n39n_p _ _).p.bind fun y3 => (vam (vah _) (vfn ((n42n_p _ _).p.bind fun y4 => (vam (vah _) (vfn (vam (vah _) (vfn ((n47n_p _).p.bind fun y5 => (vam (vah _) (vah _))) vc8)) vc8))) vc8))) vc8)) vc8)) vc8)) vc8)) vc8) (vah _))⟩
def v72 (a0 : (List dTxn)) (a1 : Int) (k : Int → Option Res) : Option Res :=
 vae vkr Fuel (a0, a1, 0, 0) (Sum.elim (fun z1 =>
 k z1.2.2.1) (fun z2 =>
 k z2.2.1))
def vqc := shut v72
theorem wer : vqc = v72 := vag _
instance n40n_p (a0 : (List dTxn)) (a1 : Int) : ParC (vqc a0 a1) := by rw [wer]; unfold v72; (try dsimp only); infer_instance
def v6v (a0 : vmb) (a1 : Int) (k : Int → Option Res) : Option Res :=
 vxf a0.1 a1 (fun y1 =>
 bif (decide (y1 < 0)) then
 k (-1 : Int)
 else
 vqc a0.2.1 y1 (fun y2 =>
 bif (decide (y2 < 0)) then
 k (-1 : Int)
 else
 vqc a0.2.2.1 y2 (fun y3 =>
 bif (decide (y3 < 0)) then
 k (-1 : Int)
 else
 k y3)))
def v1z := shut v6v
theorem wgl : v1z = v6v := vag _
instance n36n_p (a0 : vmb) (a1 : Int) : ParC (v1z a0 a1) := by rw [wgl]; unfold v6v; (try dsimp only); infer_instance
def v9j (a0 : vbb) (a1 : Int) (k : Int → Option Res) : Option Res :=
 v1z a0.1 a1 (fun y1 =>
 bif (decide (y1 < 0)) then
 k (-1 : Int)
 else
 vqc a0.2 y1 (fun y2 =>
 bif (decide (y2 < 0)) then
 k (-1 : Int)
 else
 k y2))
def vn5 := shut v9j
theorem whe : vn5 = v9j := vag _
instance n37n_p (a0 : vbb) (a1 : Int) : ParC (vn5 a0 a1) := by rw [whe]; unfold v9j; (try dsimp only); infer_instance
def vkz (x : q3T) (k : q3T ⊕ (q3T ⊕ q3T) → Option Res) : Option Res :=
 bif (decide (x.2.2.2 < (x.1.length : Int))) then
 if 0 ≤ x.2.2.2 ∧ x.2.2.2 < (x.1.length : Int) then
 vbk x.2.1 (fun y3 =>
 bif (!(vas ((rd (Ty.zero tRange) x.1 x.2.2.2).1) y3)) then
 k (.inr (.inl (x.1, x.2.1, (-1 : Int), x.2.2.2)))
 else
 if 0 ≤ x.2.2.2 ∧ x.2.2.2 < (x.1.length : Int) then
 vbk (IntKind.wrap .i64 (x.2.1 + 1)) (fun y4 =>
 bif (!(vas ((rd (Ty.zero tRange) x.1 x.2.2.2).2) y4)) then
 k (.inr (.inl (x.1, (IntKind.wrap .i64 (x.2.1 + 1)), (-1 : Int), x.2.2.2)))
 else
 k (.inl (x.1, (IntKind.wrap .i64 ((IntKind.wrap .i64 (x.2.1 + 1)) + 1)), x.2.2.1, (IntKind.wrap .i64 (x.2.2.2 + 1)))))
 else none)
 else none
 else
 k (.inr (.inr (x.1, x.2.1, x.2.2.1, x.2.2.2)))
instance n38n_bp0 (x : q3T) : ParC (vkz x) := by unfold vkz; (try dsimp only); infer_instance
def v7m (a0 : (List vab)) (a1 : Int) (k : Int → Option Res) : Option Res :=
 vae vkz Fuel (a0, a1, 0, 0) (Sum.elim (fun z1 =>
 k z1.2.2.1) (fun z2 =>
 k z2.2.1))
def vox := shut v7m
theorem wfh : vox = v7m := vag _
instance n38n_p (a0 : (List vab)) (a1 : Int) : ParC (vox a0 a1) := by rw [wfh]; unfold v7m; (try dsimp only); infer_instance
def vcy (x : q30T) (k : q30T → Option Res) : Option Res :=
 let xh := x.2.2.2.2.2.2.2.2
 vn5 ((x.2.2.2.2.2.1, (x.2.2.2.2.2.2.1, (x.2.2.2.2.2.2.2.1, (x.2.2.1, x.2.2.2.1)))), xh) (1 : Int) (fun y31 =>
 bif (decide (y31 < 0)) then
 k (false, x.2.1, x.2.2.1, x.2.2.2.1, x.2.2.2.2.1, x.2.2.2.2.2.1, x.2.2.2.2.2.2.1, x.2.2.2.2.2.2.2.1, xh)
 else
 vox x.2.2.2.2.1 y31 (fun y32 =>
 bif (decide (y32 < 0)) then
 k (false, x.2.1, x.2.2.1, x.2.2.2.1, x.2.2.2.2.1, x.2.2.2.2.2.1, x.2.2.2.2.2.2.1, x.2.2.2.2.2.2.2.1, xh)
 else
 bif (y32 != x.2.1) then
 k (false, x.2.1, x.2.2.1, x.2.2.2.1, x.2.2.2.2.1, x.2.2.2.2.2.1, x.2.2.2.2.2.2.1, x.2.2.2.2.2.2.2.1, xh)
 else
 k (true, x.2.1, x.2.2.1, x.2.2.2.1, x.2.2.2.2.1, x.2.2.2.2.2.1, x.2.2.2.2.2.2.1, x.2.2.2.2.2.2.2.1, xh)))
instance n23n_jp5000034 (x : q30T) : ParC (vcy x) := by unfold vcy; (try dsimp only); infer_instance
def vcu (x : q41T) (k : (q41T ⊕ q29T) → Option Res) : Option Res :=
 let xh := x.2.2.2.2.2.2.2.2
 let xhh := xh.2.2.2.2.2.2.2.2
 vo6 xh.2.2.2.2.2.2.1 xh.2.2.2.2.2.2.2.1 (1 : Int) xhh.2.2.2.2.2.1 xhh.2.2.2.2.2.2.1 xhh.2.2.2.2.2.2.2.1 xhh.2.2.2.2.2.2.2.2 (fun y21 =>
 vvr y21.1 xhh.1 (fun y22 =>
 vn5 ((y21.2.1, (y21.2.2.1, (y21.2.2.2.1, (xh.2.2.2.2.2.2.1, xh.2.2.2.2.2.2.2.1)))), y21.2.2.2.2) (1 : Int) (fun y23 =>
 bif (decide (y23 < 0)) then
 k (.inl (x.1, false, x.2.2.1, x.2.2.2.1, x.2.2.2.2.1, x.2.2.2.2.2.1, x.2.2.2.2.2.2.1, x.2.2.2.2.2.2.2.1, xh.1, xh.2.1, xh.2.2.1, xh.2.2.2.1, xh.2.2.2.2.1, xh.2.2.2.2.2.1, xh.2.2.2.2.2.2.1, xh.2.2.2.2.2.2.2.1, y22.2, xhh.2.1, xhh.2.2.1, xhh.2.2.2.1, xhh.2.2.2.2.1, y21.2.1, y21.2.2.1, y21.2.2.2.1, y21.2.2.2.2))
 else
 vox y22.2 y23 (fun y24 =>
 bif (decide (y24 < 0)) then
 k (.inl (x.1, false, x.2.2.1, x.2.2.2.1, x.2.2.2.2.1, x.2.2.2.2.2.1, x.2.2.2.2.2.2.1, x.2.2.2.2.2.2.2.1, xh.1, xh.2.1, xh.2.2.1, xh.2.2.2.1, xh.2.2.2.2.1, xh.2.2.2.2.2.1, xh.2.2.2.2.2.2.1, xh.2.2.2.2.2.2.2.1, y22.2, xhh.2.1, xhh.2.2.1, xhh.2.2.2.1, xhh.2.2.2.2.1, y21.2.1, y21.2.2.1, y21.2.2.2.1, y21.2.2.2.2))
 else
 bif (y24 != y22.1) then
 k (.inl (x.1, false, x.2.2.1, x.2.2.2.1, x.2.2.2.2.1, x.2.2.2.2.2.1, x.2.2.2.2.2.2.1, x.2.2.2.2.2.2.2.1, xh.1, xh.2.1, xh.2.2.1, xh.2.2.2.1, xh.2.2.2.2.1, xh.2.2.2.2.2.1, xh.2.2.2.2.2.2.1, xh.2.2.2.2.2.2.2.1, y22.2, xhh.2.1, xhh.2.2.1, xhh.2.2.2.1, xhh.2.2.2.2.1, y21.2.1, y21.2.2.1, y21.2.2.2.1, y21.2.2.2.2))
 else
 vhl ((x.2.2.2.1, (x.2.2.2.2.1, (x.2.2.2.2.2.1, (x.2.2.2.2.2.2.1, x.2.2.2.2.2.2.2.1)))), xh.1) (fun y25 =>
 viw (xh.2.1, xh.2.2.1) (fun y26 =>
 vpy ((y25.2.2.1, (y25.2.2.2.1, (y25.2.2.2.2.1, (y25.1, y25.2.1)))), y25.2.2.2.2.2) x.1 y26 (fun y27 =>
 vft ((y27.2.2.2.1, (y27.2.2.2.2.1, (y27.2.2.2.2.2.1, (y27.1, y27.2.1)))), y27.2.2.2.2.2.2.1) ((xhh.2.1, (xhh.2.2.1, (xhh.2.2.2.1, (xh.2.2.2.1, xh.2.2.2.2.1)))), xhh.2.2.2.2.1) (fun y28 =>
 bif (!y28) then
 k (.inl (x.1, false, x.2.2.1, x.2.2.2.1, x.2.2.2.2.1, x.2.2.2.2.2.1, x.2.2.2.2.2.2.1, x.2.2.2.2.2.2.2.1, xh.1, xh.2.1, xh.2.2.1, xh.2.2.2.1, xh.2.2.2.2.1, xh.2.2.2.2.2.1, xh.2.2.2.2.2.2.1, xh.2.2.2.2.2.2.2.1, y22.2, xhh.2.1, xhh.2.2.1, xhh.2.2.2.1, xhh.2.2.2.2.1, y21.2.1, y21.2.2.1, y21.2.2.2.1, y21.2.2.2.2))
 else
 vkf y27.2.2.2.2.2.2.2 xh.2.2.2.2.2.1 (fun y29 =>
 bif (!y29) then
 k (.inl (x.1, false, x.2.2.1, x.2.2.2.1, x.2.2.2.2.1, x.2.2.2.2.2.1, x.2.2.2.2.2.2.1, x.2.2.2.2.2.2.2.1, xh.1, xh.2.1, xh.2.2.1, xh.2.2.2.1, xh.2.2.2.2.1, xh.2.2.2.2.2.1, xh.2.2.2.2.2.2.1, xh.2.2.2.2.2.2.2.1, y22.2, xhh.2.1, xhh.2.2.1, xhh.2.2.2.1, xhh.2.2.2.2.1, y21.2.1, y21.2.2.1, y21.2.2.2.1, y21.2.2.2.2))
 else
 bif (y27.2.2.1 != x.2.2.1) then
 k (.inl (x.1, false, x.2.2.1, x.2.2.2.1, x.2.2.2.2.1, x.2.2.2.2.2.1, x.2.2.2.2.2.2.1, x.2.2.2.2.2.2.2.1, xh.1, xh.2.1, xh.2.2.1, xh.2.2.2.1, xh.2.2.2.2.1, xh.2.2.2.2.2.1, xh.2.2.2.2.2.2.1, xh.2.2.2.2.2.2.2.1, y22.2, xhh.2.1, xhh.2.2.1, xhh.2.2.2.1, xhh.2.2.2.2.1, y21.2.1, y21.2.2.1, y21.2.2.2.1, y21.2.2.2.2))
 else
 vcy (x.2.1, y22.1, xh.2.2.2.2.2.2.1, xh.2.2.2.2.2.2.2.1, y22.2, y21.2.1, y21.2.2.1, y21.2.2.2.1, y21.2.2.2.2) (fun z30 =>
 k (.inr (z30.1, z30.2.2.1, z30.2.2.2.1, z30.2.2.2.2.1, z30.2.2.2.2.2.1, z30.2.2.2.2.2.2.1, z30.2.2.2.2.2.2.2.1, z30.2.2.2.2.2.2.2.2))))))))))))
instance n23n_jp5000019 (x : q41T) : ParC (vcu x) := by unfold vcu; (try dsimp only); exact ⟨((n44n_p _ _ _ _ _ _ _).p.bind fun y21 => ((n45n_p _ _).p.bind fun y22 => ((n37n_p _ _).p.bind fun y23 => (vam (vah _) ((n38n_p _ _).p.bind fun y24 => (vam (vah _) (vam (vah _) ((n62n_p _).p.bind fun y25 => ((n63n_p _).p.bind fun y26 => ((n08n_p _ _ _).p.bind fun y27 => ((n25n_p _ _).p.bind fun y28 => (vam (vah _) ((n27n_p _ _).p.bind fun y29 => (vam (vah _) (vam (vah _) ((n23n_jp5000034 _).p.bind fun z30 => (vah _)))))))))))))))))⟩
def vct (x : q42T) (k : (q42T ⊕ (q41T ⊕ q29T)) → Option Res) : Option Res :=
 let xh := x.2.2.2.2.2.2.2.2
 let xhh := xh.2.2.2.2.2.2.2.2
 let xhhh := xhh.2.2.2.2.2.2.2.2
 vhl ((x.2.2.2.2.1, (x.2.2.2.2.2.1, (x.2.2.2.2.2.2.1, (x.2.2.2.2.2.2.2.1, xh.1)))), xh.2.1) (fun y14 =>
 vft ((xhhh.1, (xhhh.2.1, (xhhh.2.2.1, (xh.2.2.2.2.2.2.2.1, xhh.1)))), xhhh.2.2.2.1) ((y14.2.2.1, (y14.2.2.2.1, (y14.2.2.2.2.1, (y14.1, y14.2.1)))), y14.2.2.2.2.2) (fun y15 =>
 bif (!y15) then
 k (.inl (x.1, false, x.2.2.1, x.2.2.2.1, x.2.2.2.2.1, x.2.2.2.2.2.1, x.2.2.2.2.2.2.1, x.2.2.2.2.2.2.2.1, xh.1, xh.2.1, xh.2.2.1, xh.2.2.2.1, xh.2.2.2.2.1, xh.2.2.2.2.2.1, xh.2.2.2.2.2.2.1, xh.2.2.2.2.2.2.2.1, xhh.1, xhh.2.1, xhh.2.2.1, xhh.2.2.2.1, xhh.2.2.2.2.1, xhh.2.2.2.2.2.1, xhh.2.2.2.2.2.2.1, xhh.2.2.2.2.2.2.2.1, xhhh.1, xhhh.2.1, xhhh.2.2.1, xhhh.2.2.2.1, xhhh.2.2.2.2.1, xhhh.2.2.2.2.2.1, xhhh.2.2.2.2.2.2.1, xhhh.2.2.2.2.2.2.2))
 else
 vo6 xh.2.2.2.2.2.2.2.1 xhh.1 (1 : Int) xhhh.1 xhhh.2.1 xhhh.2.2.1 xhhh.2.2.2.1 (fun y16 =>
 bif (decide (y16.1 < 0)) then
 k (.inl (x.1, false, x.2.2.1, x.2.2.2.1, x.2.2.2.2.1, x.2.2.2.2.2.1, x.2.2.2.2.2.2.1, x.2.2.2.2.2.2.2.1, xh.1, xh.2.1, xh.2.2.1, xh.2.2.2.1, xh.2.2.2.2.1, xh.2.2.2.2.2.1, xh.2.2.2.2.2.2.1, xh.2.2.2.2.2.2.2.1, xhh.1, xhh.2.1, xhh.2.2.1, xhh.2.2.2.1, xhh.2.2.2.2.1, xhh.2.2.2.2.2.1, xhh.2.2.2.2.2.2.1, xhh.2.2.2.2.2.2.2.1, y16.2.1, y16.2.2.1, y16.2.2.2.1, y16.2.2.2.2, xhhh.2.2.2.2.1, xhhh.2.2.2.2.2.1, xhhh.2.2.2.2.2.2.1, xhhh.2.2.2.2.2.2.2))
 else
 vft ((xhhh.2.2.2.2.1, (xhhh.2.2.2.2.2.1, (xhhh.2.2.2.2.2.2.1, (xhh.2.1, xhh.2.2.1)))), xhhh.2.2.2.2.2.2.2) ((xhh.2.2.2.2.1, (xhh.2.2.2.2.2.1, (xhh.2.2.2.2.2.2.1, (xh.2.2.2.2.1, xh.2.2.2.2.2.1)))), xhh.2.2.2.2.2.2.2.1) (fun y17 =>
 bif (!y17) then
 k (.inl (x.1, false, x.2.2.1, x.2.2.2.1, x.2.2.2.2.1, x.2.2.2.2.2.1, x.2.2.2.2.2.2.1, x.2.2.2.2.2.2.2.1, xh.1, xh.2.1, xh.2.2.1, xh.2.2.2.1, xh.2.2.2.2.1, xh.2.2.2.2.2.1, xh.2.2.2.2.2.2.1, xh.2.2.2.2.2.2.2.1, xhh.1, xhh.2.1, xhh.2.2.1, xhh.2.2.2.1, xhh.2.2.2.2.1, xhh.2.2.2.2.2.1, xhh.2.2.2.2.2.2.1, xhh.2.2.2.2.2.2.2.1, y16.2.1, y16.2.2.1, y16.2.2.2.1, y16.2.2.2.2, xhhh.2.2.2.2.1, xhhh.2.2.2.2.2.1, xhhh.2.2.2.2.2.2.1, xhhh.2.2.2.2.2.2.2))
 else
 vkf xhh.2.2.2.1 xh.2.2.2.2.2.2.1 (fun y18 =>
 bif (!y18) then
 k (.inl (x.1, false, x.2.2.1, x.2.2.2.1, x.2.2.2.2.1, x.2.2.2.2.2.1, x.2.2.2.2.2.2.1, x.2.2.2.2.2.2.2.1, xh.1, xh.2.1, xh.2.2.1, xh.2.2.2.1, xh.2.2.2.2.1, xh.2.2.2.2.2.1, xh.2.2.2.2.2.2.1, xh.2.2.2.2.2.2.2.1, xhh.1, xhh.2.1, xhh.2.2.1, xhh.2.2.2.1, xhh.2.2.2.2.1, xhh.2.2.2.2.2.1, xhh.2.2.2.2.2.2.1, xhh.2.2.2.2.2.2.2.1, y16.2.1, y16.2.2.1, y16.2.2.2.1, y16.2.2.2.2, xhhh.2.2.2.2.1, xhhh.2.2.2.2.2.1, xhhh.2.2.2.2.2.2.1, xhhh.2.2.2.2.2.2.2))
 else
 bif (x.2.2.2.1 != x.2.2.1) then
 k (.inl (x.1, false, x.2.2.1, x.2.2.2.1, x.2.2.2.2.1, x.2.2.2.2.2.1, x.2.2.2.2.2.2.1, x.2.2.2.2.2.2.2.1, xh.1, xh.2.1, xh.2.2.1, xh.2.2.2.1, xh.2.2.2.2.1, xh.2.2.2.2.2.1, xh.2.2.2.2.2.2.1, xh.2.2.2.2.2.2.2.1, xhh.1, xhh.2.1, xhh.2.2.1, xhh.2.2.2.1, xhh.2.2.2.2.1, xhh.2.2.2.2.2.1, xhh.2.2.2.2.2.2.1, xhh.2.2.2.2.2.2.2.1, y16.2.1, y16.2.2.1, y16.2.2.2.1, y16.2.2.2.2, xhhh.2.2.2.2.1, xhhh.2.2.2.2.2.1, xhhh.2.2.2.2.2.2.1, xhhh.2.2.2.2.2.2.2))
 else
 vcu (x.1, x.2.1, x.2.2.1, x.2.2.2.2.1, x.2.2.2.2.2.1, x.2.2.2.2.2.2.1, x.2.2.2.2.2.2.2.1, xh.1, xh.2.1, xh.2.2.1, xh.2.2.2.1, xh.2.2.2.2.1, xh.2.2.2.2.2.1, xh.2.2.2.2.2.2.1, xhh.2.1, xhh.2.2.1, xhh.2.2.2.1, xhh.2.2.2.2.1, xhh.2.2.2.2.2.1, xhh.2.2.2.2.2.2.1, xhh.2.2.2.2.2.2.2.1, xhhh.2.2.2.2.1, xhhh.2.2.2.2.2.1, xhhh.2.2.2.2.2.2.1, xhhh.2.2.2.2.2.2.2) (Sum.elim (fun z19 =>
 let z19h := z19.2.2.2.2.2.2.2.2
 let z19hh := z19h.2.2.2.2.2.2.2.2
 k (.inr (.inl (z19.1, z19.2.1, z19.2.2.1, z19.2.2.2.1, z19.2.2.2.2.1, z19.2.2.2.2.2.1, z19.2.2.2.2.2.2.1, z19.2.2.2.2.2.2.2.1, z19h.1, z19h.2.1, z19h.2.2.1, z19h.2.2.2.1, z19h.2.2.2.2.1, z19h.2.2.2.2.2.1, z19h.2.2.2.2.2.2.1, z19h.2.2.2.2.2.2.2.1, z19hh.1, z19hh.2.1, z19hh.2.2.1, z19hh.2.2.2.1, z19hh.2.2.2.2.1, z19hh.2.2.2.2.2.1, z19hh.2.2.2.2.2.2.1, z19hh.2.2.2.2.2.2.2.1, z19hh.2.2.2.2.2.2.2.2)))) (fun z20 =>
 k (.inr (.inr (z20.1, z20.2.1, z20.2.2.1, z20.2.2.2.1, z20.2.2.2.2.1, z20.2.2.2.2.2.1, z20.2.2.2.2.2.2.1, z20.2.2.2.2.2.2.2))))))))))
instance n23n_jp5000013 (x : q42T) : ParC (vct x) := by unfold vct; (try dsimp only); exact ⟨((n62n_p _).p.bind fun y14 => ((n25n_p _ _).p.bind fun y15 => (vam (vah _) ((n44n_p _ _ _ _ _ _ _).p.bind fun y16 => (vam (vah _) ((n25n_p _ _).p.bind fun y17 => (vam (vah _) ((n27n_p _ _).p.bind fun y18 => (vam (vah _) (vam (vah _) ((n23n_jp5000019 _).p.bind2 (fun z19 => (vah _)) (fun z20 => (vah _)))))))))))))⟩
def v8v (a0 : vbb) (a1 : Int) (a2 : vab) (k : Bool → Option Res) : Option Res :=
 vw1 a0 (1048576 : Int) (fun y1 =>
 bif (decide (y1 < 0)) then
 k true
 else
 vqo a2 y1 (fun y2 =>
 bif (decide (y2 < 0)) then
 k true
 else
 vhl a0 (fun y3 =>
 viw a2 (fun y4 =>
 vxg ((y3.2.2.1, (y3.2.2.2.1, (y3.2.2.2.2.1, (y3.1, y3.2.1)))), y3.2.2.2.2.2) a1 y4 (fun y5 =>
 vhl a0 (fun y6 =>
 viw a2 (fun y7 =>
 vpy ((y6.2.2.1, (y6.2.2.2.1, (y6.2.2.2.2.1, (y6.1, y6.2.1)))), y6.2.2.2.2.2) a1 y7 (fun y8 =>
 vft ((y8.2.2.2.1, (y8.2.2.2.2.1, (y8.2.2.2.2.2.1, (y8.1, y8.2.1)))), y8.2.2.2.2.2.2.1) ((y5.2.2.2.1, (y5.2.2.2.2.1, (y5.2.2.2.2.2.1, (y5.1, y5.2.1)))), y5.2.2.2.2.2.2.1) (fun y9 =>
 bif (!y9) then
 k false
 else
 vkf y8.2.2.2.2.2.2.2 y5.2.2.2.2.2.2.2 (fun y10 =>
 bif (!y10) then
 k false
 else
 bif (y8.2.2.1 != y5.2.2.1) then
 k false
 else
 vct (a1, false, y5.2.2.1, y8.2.2.1, a0.1.1, a0.1.2.1, a0.1.2.2.1, a0.1.2.2.2.1, a0.1.2.2.2.2, a0.2, a2.1, a2.2, y5.1, y5.2.1, y5.2.2.2.2.2.2.2, y6.1, y6.2.1, y8.1, y8.2.1, y8.2.2.2.2.2.2.2, y5.2.2.2.1, y5.2.2.2.2.1, y5.2.2.2.2.2.1, y5.2.2.2.2.2.2.1, y6.2.2.1, y6.2.2.2.1, y6.2.2.2.2.1, y6.2.2.2.2.2, y8.2.2.2.1, y8.2.2.2.2.1, y8.2.2.2.2.2.1, y8.2.2.2.2.2.2.1) (Sum.elim (fun z11 =>
 k z11.2.1) (Sum.elim (fun z12 =>
 k z12.2.1) (fun z13 =>
 k z13.1)))))))))))))
def v2j := shut v8v
theorem wfs : v2j = v8v := vag _
instance n23n_p (a0 : vbb) (a1 : Int) (a2 : vab) : ParC (v2j a0 a1 a2) := by rw [wfs]; unfold v8v; (try dsimp only); exact ⟨((n52n_p _ _).p.bind fun y1 => (vam (vah _) ((n53n_p _ _).p.bind fun y2 => (vam (vah _) ((n62n_p _).p.bind fun y3 => ((n63n_p _).p.bind fun y4 => ((n84n_p _ _ _).p.bind fun y5 => ((n62n_p _).p.bind fun y6 => ((n63n_p _).p.bind fun y7 => ((n08n_p _ _ _).p.bind fun y8 => ((n25n_p _ _).p.bind fun y9 => (vam (vah _) ((n27n_p _ _).p.bind fun y10 => (vam (vah _) (vam (vah _) ((n23n_jp5000013 _).p.bind2 (fun z11 => (vah _)) (fun q => v66 (fun z12 => (vah _)) (fun z13 => (vah _)) q)))))))))))))))))⟩
def wl8 (args : List AV) (st : St) (k : K1) : Option Res :=
 vai [.agg [.str, .str, .bool, .i], .i] [] args st (fun p q => vxt (p.1.1, (p.1.2.1, (p.1.2.2.1, p.1.2.2.2.1))) p.2.1 (fun (y : Int) => k (.i y) []))
 (none)
def wmh (args : List AV) (st : St) (k : K1) : Option Res :=
 vai [.lst tVersion, .i] [] args st (fun p q => v21 p.1 p.2.1 (fun (y : Int) => k (.i y) []))
 (none)
def wmm (args : List AV) (st : St) (k : K1) : Option Res :=
 vai [.agg [.str, .str], .i] [] args st (fun p q => vqo (p.1.1, p.1.2.1) p.2.1 (fun (y : Int) => k (.i y) []))
 (none)
def wmw (args : List AV) (st : St) (k : K1) : Option Res :=
 vai [.lst tRange, .i] [] args st (fun p q => v2z p.1 p.2.1 (fun (y : Int) => k (.i y) []))
 (none)
def wl6 (args : List AV) (st : St) (k : K1) : Option Res :=
 vai [.agg [.str, .str, .bool], .i] [] args st (fun p q => vwq (p.1.1, (p.1.2.1, p.1.2.2.1)) p.2.1 (fun (y : Int) => k (.i y) []))
 (none)
def wnc (args : List AV) (st : St) (k : K1) : Option Res :=
 vai [.lst tWrite, .i] [] args st (fun p q => v1u p.1 p.2.1 (fun (y : Int) => k (.i y) []))
 (none)
def wnb (args : List AV) (st : St) (k : K1) : Option Res :=
 vai [.agg [.i, .i, .i, .i, .lst tRange, .lst tWrite, .bool, .str], .i] [] args st (fun p q => vvs (p.1.1, (p.1.2.1, (p.1.2.2.1, (p.1.2.2.2.1, (p.1.2.2.2.2.1, (p.1.2.2.2.2.2.1, (p.1.2.2.2.2.2.2.1, p.1.2.2.2.2.2.2.2.1))))))) p.2.1 (fun (y : Int) => k (.i y) []))
 (none)
def wok (args : List AV) (st : St) (k : K1) : Option Res :=
 vai [.lst tTxn, .i] [] args st (fun p q => vr0 p.1 p.2.1 (fun (y : Int) => k (.i y) []))
 (none)
def wnm (args : List AV) (st : St) (k : K1) : Option Res :=
 vai [.agg [.lst tVersion, .lst tTxn, .lst tTxn, .i, .i], .i] [] args st (fun p q => v25 (p.1.1, (p.1.2.1, (p.1.2.2.1, (p.1.2.2.2.1, p.1.2.2.2.2.1)))) p.2.1 (fun (y : Int) => k (.i y) []))
 (none)
def wn3 (args : List AV) (st : St) (k : K1) : Option Res :=
 vai [.agg [.lst tVersion, .lst tTxn, .lst tTxn, .i, .i, .lst tTxn], .i] [] args st (fun p q => vw1 ((p.1.1, (p.1.2.1, (p.1.2.2.1, (p.1.2.2.2.1, p.1.2.2.2.2.1)))), p.1.2.2.2.2.2.1) p.2.1 (fun (y : Int) => k (.i y) []))
 (none)
def wnh (args : List AV) (st : St) (k : K1) : Option Res :=
 vai [.agg [.str, .str, .bool, .i]] [] args st (fun p q => vvj (p.1.1, (p.1.2.1, (p.1.2.2.1, p.1.2.2.2.1))) (fun (y : q37T) => k (.agg [.str y.1, .str y.2.1, .bool y.2.2.1, .i y.2.2.2]) []))
 (none)
def wmu (args : List AV) (st : St) (k : K1) : Option Res :=
 vai [.lst tVersion] [] args st (fun p q => vvw p.1 (fun (y : (List vaa)) => k (.own 0) [.arr tVersion y]))
 (none)
def wnf (args : List AV) (st : St) (k : K1) : Option Res :=
 vai [.agg [.str, .str]] [] args st (fun p q => viw (p.1.1, p.1.2.1) (fun (y : (ByteArray × ByteArray)) => k (.agg [.str y.1, .str y.2]) []))
 (none)
def woj (args : List AV) (st : St) (k : K1) : Option Res :=
 vai [.lst tRange] [] args st (fun p q => vxi p.1 (fun (y : (List vab)) => k (.own 0) [.arr tRange y]))
 (none)
def wmb (args : List AV) (st : St) (k : K1) : Option Res :=
 vai [.agg [.str, .str, .bool]] [] args st (fun p q => vyi (p.1.1, (p.1.2.1, p.1.2.2.1)) (fun (y : (ByteArray × ByteArray × Bool)) => k (.agg [.str y.1, .str y.2.1, .bool y.2.2]) []))
 (none)
def wng (args : List AV) (st : St) (k : K1) : Option Res :=
 vai [.lst tWrite] [] args st (fun p q => vyg p.1 (fun (y : (List vaf)) => k (.own 0) [.arr tWrite y]))
 (none)
def wmk (args : List AV) (st : St) (k : K1) : Option Res :=
 vai [.agg [.i, .i, .i, .i, .lst tRange, .lst tWrite, .bool, .str]] [] args st (fun p q => vsa (p.1.1, (p.1.2.1, (p.1.2.2.1, (p.1.2.2.2.1, (p.1.2.2.2.2.1, (p.1.2.2.2.2.2.1, (p.1.2.2.2.2.2.2.1, p.1.2.2.2.2.2.2.2.1))))))) (fun (y : q48T) => k (.agg [.i y.1, .i y.2.1, .i y.2.2.1, .i y.2.2.2.1, .own 0, .own 1, .bool y.2.2.2.2.1, .str y.2.2.2.2.2.1]) [.arr tRange y.2.2.2.2.2.2.1, .arr tWrite y.2.2.2.2.2.2.2]))
 (none)
def wn8 (args : List AV) (st : St) (k : K1) : Option Res :=
 vai [.lst tTxn] [] args st (fun p q => vqn p.1 (fun (y : (List dTxn)) => k (.own 0) [.dep tTxn y 0]))
 (none)
def wnu (args : List AV) (st : St) (k : K1) : Option Res :=
 vai [.agg [.lst tVersion, .lst tTxn, .lst tTxn, .i, .i]] [] args st (fun p q => vxm (p.1.1, (p.1.2.1, (p.1.2.2.1, (p.1.2.2.2.1, p.1.2.2.2.2.1)))) (fun (y : q44T) => k (.agg [.own 0, .own 1, .own 2, .i y.1, .i y.2.1]) [.arr tVersion y.2.2.1, .dep tTxn y.2.2.2.1 0, .dep tTxn y.2.2.2.2 0]))
 (none)
def wof (args : List AV) (st : St) (k : K1) : Option Res :=
 vai [.agg [.lst tVersion, .lst tTxn, .lst tTxn, .i, .i, .lst tTxn]] [] args st (fun p q => vhl ((p.1.1, (p.1.2.1, (p.1.2.2.1, (p.1.2.2.2.1, p.1.2.2.2.2.1)))), p.1.2.2.2.2.2.1) (fun (y : q43T) => k (.agg [.own 0, .own 1, .own 2, .i y.1, .i y.2.1, .own 3]) [.arr tVersion y.2.2.1, .dep tTxn y.2.2.2.1 0, .dep tTxn y.2.2.2.2.1 0, .dep tTxn y.2.2.2.2.2 0]))
 (none)
def wmt (args : List AV) (st : St) (k : K1) : Option Res :=
 vai [.agg [.i, .i, .i, .i, .lst tRange, .lst tWrite, .bool, .str]] [] args st (fun p q => vqh (p.1.1, (p.1.2.1, (p.1.2.2.1, (p.1.2.2.2.1, (p.1.2.2.2.2.1, (p.1.2.2.2.2.2.1, (p.1.2.2.2.2.2.2.1, p.1.2.2.2.2.2.2.2.1))))))) (fun (y : q48T) => k (.agg [.i y.1, .i y.2.1, .i y.2.2.1, .i y.2.2.2.1, .own 0, .own 1, .bool y.2.2.2.2.1, .str y.2.2.2.2.2.1]) [.arr tRange y.2.2.2.2.2.2.1, .arr tWrite y.2.2.2.2.2.2.2]))
 (none)
def wme (args : List AV) (st : St) (k : K1) : Option Res :=
 vai [.lst tTxn] [] args st (fun p q => vqi p.1 (fun (y : (List dTxn)) => k (.own 0) [.arr tTxn y]))
 (none)
def wn0 (args : List AV) (st : St) (k : K1) : Option Res :=
 vai [.agg [.lst tVersion, .lst tTxn, .lst tTxn, .i, .i]] [] args st (fun p q => v9v (p.1.1, (p.1.2.1, (p.1.2.2.1, (p.1.2.2.2.1, p.1.2.2.2.2.1)))) (fun (y : q44T) => k (.agg [.own 0, .own 1, .own 2, .i y.1, .i y.2.1]) [.arr tVersion y.2.2.1, .arr tTxn y.2.2.2.1, .arr tTxn y.2.2.2.2]))
 (none)
def wmg (args : List AV) (st : St) (k : K1) : Option Res :=
 vai [.agg [.lst tVersion, .lst tTxn, .lst tTxn, .i, .i, .lst tTxn]] [] args st (fun p q => v17 ((p.1.1, (p.1.2.1, (p.1.2.2.1, (p.1.2.2.2.1, p.1.2.2.2.2.1)))), p.1.2.2.2.2.2.1) (fun (y : q43T) => k (.agg [.own 0, .own 1, .own 2, .i y.1, .i y.2.1, .own 3]) [.arr tVersion y.2.2.1, .arr tTxn y.2.2.2.1, .arr tTxn y.2.2.2.2.1, .arr tTxn y.2.2.2.2.2]))
 (none)
def wnk (args : List AV) (st : St) (k : K1) : Option Res :=
 vai [.agg [.lst tVersion, .lst tTxn, .lst tTxn, .i, .i, .lst tTxn], .i] [] args st (fun p q => vys ((p.1.1, (p.1.2.1, (p.1.2.2.1, (p.1.2.2.2.1, p.1.2.2.2.2.1)))), p.1.2.2.2.2.2.1) p.2.1 (fun (y : Int) => k (.i y) []))
 (none)
def wmz (args : List AV) (st : St) (k : K1) : Option Res :=
 vai [.i, .i, .i] [] args st (fun p q => vf3 p.1 p.2.1 p.2.2.1 (fun (y : Bool) => k (.bool y) []))
 (none)
def wmr (args : List AV) (st : St) (k : K1) : Option Res :=
 vai [.str] [] args st (fun p q => vmp p.1 (fun (y : Bool) => k (.bool y) []))
 (none)
def wne (args : List AV) (st : St) (k : K1) : Option Res :=
 vai [.agg [.str, .str]] [] args st (fun p q => vol (p.1.1, p.1.2.1) (fun (y : Bool) => k (.bool y) []))
 (none)
def wl5 (args : List AV) (st : St) (k : K1) : Option Res :=
 vai [.agg [.str, .str, .bool]] [] args st (fun p q => vw7 (p.1.1, (p.1.2.1, p.1.2.2.1)) (fun (y : Bool) => k (.bool y) []))
 (none)
def wn2 (args : List AV) (st : St) (k : K1) : Option Res :=
 vai [.lst tWrite] [] args st (fun p q => vta p.1 (fun (y : Bool) => k (.bool y) []))
 (none)
def wm7 (args : List AV) (st : St) (k : K1) : Option Res :=
 vai [.agg [.i, .i, .i, .i, .lst tRange, .lst tWrite, .bool, .str]] [] args st (fun p q => vtt (p.1.1, (p.1.2.1, (p.1.2.2.1, (p.1.2.2.2.1, (p.1.2.2.2.2.1, (p.1.2.2.2.2.2.1, (p.1.2.2.2.2.2.2.1, p.1.2.2.2.2.2.2.2.1))))))) (fun (y : Bool) => k (.bool y) []))
 (none)
def woe (args : List AV) (st : St) (k : K1) : Option Res :=
 vai [.agg [.i, .i, .i, .i, .lst tRange, .lst tWrite, .bool, .str], .agg [.str, .str]] [] args st (fun p q => vw9 (p.1.1, (p.1.2.1, (p.1.2.2.1, (p.1.2.2.2.1, (p.1.2.2.2.2.1, (p.1.2.2.2.2.2.1, (p.1.2.2.2.2.2.2.1, p.1.2.2.2.2.2.2.2.1))))))) (p.2.1.1, p.2.1.2.1) (fun (y : q49T) => k (.tup [.agg [.i y.1, .i y.2.1, .i y.2.2.1, .i y.2.2.2.1, .own 0, .own 1, .bool y.2.2.2.2.1, .str y.2.2.2.2.2.1], .bool y.2.2.2.2.2.2.1]) [.arr tRange y.2.2.2.2.2.2.2.1, .arr tWrite y.2.2.2.2.2.2.2.2]))
 (none)
def wmq (args : List AV) (st : St) (k : K1) : Option Res :=
 vai [.agg [.str, .str], .str] [] args st (fun p q => vwk (p.1.1, p.1.2.1) p.2.1 (fun (y : Bool) => k (.bool y) []))
 (none)
def wmd (args : List AV) (st : St) (k : K1) : Option Res :=
 vai [.lst tVersion, .agg [.str, .str]] [] args st (fun p q => vyj p.1 (p.2.1.1, p.2.1.2.1) (fun (y : (List ByteArray)) => k (.own 0) [.arr .str y]))
 (none)
def wn9 (args : List AV) (st : St) (k : K1) : Option Res :=
 vai [.lst tVersion, .str, .i] [] args st (fun p q => vyk p.1 p.2.1 p.2.2.1 (fun (y : Int) => k (.i y) []))
 (none)
def woa (args : List AV) (st : St) (k : K1) : Option Res :=
 vai [.lst tVersion, .str, .i] [] args st (fun p q => vxs p.1 p.2.1 p.2.2.1 (fun (y : (ByteArray × Bool)) => k (.tup [.str y.1, .bool y.2]) []))
 (none)
def wnn (args : List AV) (st : St) (k : K1) : Option Res :=
 vai [.agg [.i, .i, .i, .i, .lst tRange, .lst tWrite, .bool, .str], .lst tVersion, .str] [] args st (fun p q => vtf (p.1.1, (p.1.2.1, (p.1.2.2.1, (p.1.2.2.2.1, (p.1.2.2.2.2.1, (p.1.2.2.2.2.2.1, (p.1.2.2.2.2.2.2.1, p.1.2.2.2.2.2.2.2.1))))))) p.2.1 p.2.2.1 (fun (y : (ByteArray × Bool)) => k (.tup [.str y.1, .bool y.2]) []))
 (none)
def wom (args : List AV) (st : St) (k : K1) : Option Res :=
 vai [.agg [.i, .i, .i, .i, .lst tRange, .lst tWrite, .bool, .str], .lst tVersion, .agg [.str, .str]] [] args st (fun p q => vxk (p.1.1, (p.1.2.1, (p.1.2.2.1, (p.1.2.2.2.1, (p.1.2.2.2.2.1, (p.1.2.2.2.2.2.1, (p.1.2.2.2.2.2.2.1, p.1.2.2.2.2.2.2.2.1))))))) p.2.1 (p.2.2.1.1, p.2.2.1.2.1) (fun (y : (List vab)) => k (.own 0) [.arr tRange y]))
 (none)
def wma (args : List AV) (st : St) (k : K1) : Option Res :=
 vai [.agg [.lst tVersion, .lst tTxn, .lst tTxn, .i, .i, .lst tTxn], .i, .agg [.str, .str]] [] args st (fun p q => vxg ((p.1.1, (p.1.2.1, (p.1.2.2.1, (p.1.2.2.2.1, p.1.2.2.2.2.1)))), p.1.2.2.2.2.2.1) p.2.1 (p.2.2.1.1, p.2.2.1.2.1) (fun (y : q45T) => k (.tup [.agg [.own 0, .own 1, .own 2, .i y.1, .i y.2.1, .own 3], .own 4, .i y.2.2.1]) [.arr tVersion y.2.2.2.1, .arr tTxn y.2.2.2.2.1, .arr tTxn y.2.2.2.2.2.1, .arr tTxn y.2.2.2.2.2.2.1, .arr tRange y.2.2.2.2.2.2.2]))
 (none)
def wl9 (args : List AV) (st : St) (k : K1) : Option Res :=
 vai [.i, .i, .i] [] args st (fun p q => vf2 p.1 p.2.1 p.2.2.1 (fun (y : Bool) => k (.bool y) []))
 (none)
def wny (args : List AV) (st : St) (k : K1) : Option Res :=
 vai [.str] [] args st (fun p q => vmo p.1 (fun (y : Bool) => k (.bool y) []))
 (none)
def wl4 (args : List AV) (st : St) (k : K1) : Option Res :=
 vai [.agg [.str, .str]] [] args st (fun p q => vou (p.1.1, p.1.2.1) (fun (y : Bool) => k (.bool y) []))
 (none)
def wn7 (args : List AV) (st : St) (k : K1) : Option Res :=
 vai [.agg [.i, .i, .i, .i, .lst tRange, .lst tWrite, .bool, .str]] [] args st (fun p q => vp9 (p.1.1, (p.1.2.1, (p.1.2.2.1, (p.1.2.2.2.1, (p.1.2.2.2.2.1, (p.1.2.2.2.2.2.1, (p.1.2.2.2.2.2.2.1, p.1.2.2.2.2.2.2.2.1))))))) (fun (y : q48T) => k (.agg [.i y.1, .i y.2.1, .i y.2.2.1, .i y.2.2.2.1, .own 0, .own 1, .bool y.2.2.2.2.1, .str y.2.2.2.2.2.1]) [.arr tRange y.2.2.2.2.2.2.1, .arr tWrite y.2.2.2.2.2.2.2]))
 (none)
def wns (args : List AV) (st : St) (k : K1) : Option Res :=
 vai [.lst tTxn] [] args st (fun p q => vpz p.1 (fun (y : (List dTxn)) => k (.own 0) [.dep tTxn y 0]))
 (none)
def wn6 (args : List AV) (st : St) (k : K1) : Option Res :=
 vai [.agg [.lst tVersion, .lst tTxn, .lst tTxn, .i, .i]] [] args st (fun p q => v6i (p.1.1, (p.1.2.1, (p.1.2.2.1, (p.1.2.2.2.1, p.1.2.2.2.2.1)))) (fun (y : q44T) => k (.agg [.own 0, .own 1, .own 2, .i y.1, .i y.2.1]) [.arr tVersion y.2.2.1, .dep tTxn y.2.2.2.1 0, .dep tTxn y.2.2.2.2 0]))
 (none)
def wm1 (args : List AV) (st : St) (k : K1) : Option Res :=
 vai [.agg [.lst tVersion, .lst tTxn, .lst tTxn, .i, .i, .lst tTxn]] [] args st (fun p q => v1e ((p.1.1, (p.1.2.1, (p.1.2.2.1, (p.1.2.2.2.1, p.1.2.2.2.2.1)))), p.1.2.2.2.2.2.1) (fun (y : q43T) => k (.agg [.own 0, .own 1, .own 2, .i y.1, .i y.2.1, .own 3]) [.arr tVersion y.2.2.1, .dep tTxn y.2.2.2.1 0, .dep tTxn y.2.2.2.2.1 0, .dep tTxn y.2.2.2.2.2 0]))
 (none)
def wl7 (args : List AV) (st : St) (k : K1) : Option Res :=
 vai [.agg [.i, .i, .i, .i, .lst tRange, .lst tWrite, .bool, .str], .bp 0 0] [.box [.i]] args st (fun p q => vw4 (p.1.1, (p.1.2.1, (p.1.2.2.1, (p.1.2.2.2.1, (p.1.2.2.2.2.1, (p.1.2.2.2.2.2.1, (p.1.2.2.2.2.2.2.1, p.1.2.2.2.2.2.2.2.1))))))) q.1.1 (fun (y : (Bool × Int)) => k (.bool y.1) [.box [.i y.2]]))
 (none)
def vd1 (args : List AV) (st : St) (k : K1) : Option Res :=
 vai [.lst tTxn, .fn 233 [.bp 0 0]] [.box [.i]] args st (fun p q => v1x p.1 q.1.1 (fun (y : (Int × Int)) => k (.i y.1) [.box [.i y.2]]))
 (none)
def woi (args : List AV) (st : St) (k : K1) : Option Res :=
 vai [.agg [.lst tVersion, .lst tTxn, .lst tTxn, .i, .i, .lst tTxn], .i] [] args st (fun p q => v18 ((p.1.1, (p.1.2.1, (p.1.2.2.1, (p.1.2.2.2.1, p.1.2.2.2.2.1)))), p.1.2.2.2.2.2.1) p.2.1 (fun (y : Int) => k (.i y) []))
 (none)
def wn1 (args : List AV) (st : St) (k : K1) : Option Res :=
 vai [.agg [.str, .str, .bool]] [] args st (fun p q => vwb (p.1.1, (p.1.2.1, p.1.2.2.1)) (fun (y : Bool) => k (.bool y) []))
 (none)
def wnv (args : List AV) (st : St) (k : K1) : Option Res :=
 vai [.lst tWrite] [] args st (fun p q => vsr p.1 (fun (y : Bool) => k (.bool y) []))
 (none)
def wmf (args : List AV) (st : St) (k : K1) : Option Res :=
 vai [.agg [.i, .i, .i, .i, .lst tRange, .lst tWrite, .bool, .str]] [] args st (fun p q => vrj (p.1.1, (p.1.2.1, (p.1.2.2.1, (p.1.2.2.2.1, (p.1.2.2.2.2.1, (p.1.2.2.2.2.2.1, (p.1.2.2.2.2.2.2.1, p.1.2.2.2.2.2.2.2.1))))))) (fun (y : Bool) => k (.bool y) []))
 (none)
def woh (args : List AV) (st : St) (k : K1) : Option Res :=
 vai [.lst tRange, .agg [.str, .str]] [] args st (fun p q => v27 p.1 (p.2.1.1, p.2.1.2.1) (fun (y : Int) => k (.i y) []))
 (none)
def wmx (args : List AV) (st : St) (k : K1) : Option Res :=
 vai [.lst tRange, .agg [.str, .str]] [] args st (fun p q => vyb p.1 (p.2.1.1, p.2.1.2.1) (fun (y : Bool) => k (.bool y) []))
 (none)
def wmp (args : List AV) (st : St) (k : K1) : Option Res :=
 vai [.agg [.i, .i, .i, .i, .lst tRange, .lst tWrite, .bool, .str], .agg [.str, .str]] [] args st (fun p q => vvp (p.1.1, (p.1.2.1, (p.1.2.2.1, (p.1.2.2.2.1, (p.1.2.2.2.2.1, (p.1.2.2.2.2.2.1, (p.1.2.2.2.2.2.2.1, p.1.2.2.2.2.2.2.2.1))))))) (p.2.1.1, p.2.1.2.1) (fun (y : q49T) => k (.tup [.agg [.i y.1, .i y.2.1, .i y.2.2.1, .i y.2.2.2.1, .own 0, .own 1, .bool y.2.2.2.2.1, .str y.2.2.2.2.2.1], .bool y.2.2.2.2.2.2.1]) [.arr tRange y.2.2.2.2.2.2.2.1, .arr tWrite y.2.2.2.2.2.2.2.2]))
 (none)
def woc (args : List AV) (st : St) (k : K1) : Option Res :=
 vai [.agg [.lst tVersion, .lst tTxn, .lst tTxn, .i, .i, .lst tTxn], .i, .agg [.str, .str], .bool] [] args st (fun p q => v83 ((p.1.1, (p.1.2.1, (p.1.2.2.1, (p.1.2.2.2.1, p.1.2.2.2.2.1)))), p.1.2.2.2.2.2.1) p.2.1 (p.2.2.1.1, p.2.2.1.2.1) p.2.2.2.1 (fun (y : q47T) => k (.tup [.agg [.own 0, .own 1, .own 2, .i y.1, .i y.2.1, .own 3], .i y.2.2.1, .i y.2.2.2.1]) [.arr tVersion y.2.2.2.2.1, .dep tTxn y.2.2.2.2.2.1 0, .dep tTxn y.2.2.2.2.2.2.1 0, .dep tTxn y.2.2.2.2.2.2.2 0]))
 (none)
def vc0 (args : List AV) (st : St) (k : K1) : Option Res :=
 vai [.own 0] [.arr .str] args st (fun p q => vn9 q.1 (fun (y : (List ByteArray)) => k (.tup []) [.arr .str y]))
 (none)
def vdz (args : List AV) (st : St) (k : K1) : Option Res :=
 vai [.own 0] [.arr .str] args st (fun p q => vok q.1 (Sum.elim (fun (y : (List ByteArray)) => k (.own 0) [.arr .str y]) (fun (y : (List ByteArray)) => k (.own 1) [.gone, .arr .str y])))
 (none)
def wnw (args : List AV) (st : St) (k : K1) : Option Res :=
 vai [.lst tVersion] [] args st (fun p q => vro p.1 (fun (y : (List ByteArray)) => k (.own 0) [.arr .str y]))
 (none)
def wod (args : List AV) (st : St) (k : K1) : Option Res :=
 vai [.agg [.str, .str, .bool], .bp 0 0] [.box [.str]] args st (fun p q => vwl (p.1.1, (p.1.2.1, p.1.2.2.1)) q.1.1 (fun (y : (Bool × ByteArray)) => k (.bool y.1) [.box [.str y.2]]))
 (none)
def vdd (args : List AV) (st : St) (k : K1) : Option Res :=
 vai [.lst tWrite, .fn 274 [.bp 0 0]] [.box [.str]] args st (fun p q => v16 p.1 q.1.1 (fun (y : (Int × ByteArray)) => k (.i y.1) [.box [.str y.2]]))
 (none)
def wms (args : List AV) (st : St) (k : K1) : Option Res :=
 vai [.agg [.i, .i, .i, .i, .lst tRange, .lst tWrite, .bool, .str], .str] [] args st (fun p q => v6j (p.1.1, (p.1.2.1, (p.1.2.2.1, (p.1.2.2.2.1, (p.1.2.2.2.2.1, (p.1.2.2.2.2.2.1, (p.1.2.2.2.2.2.2.1, p.1.2.2.2.2.2.2.2.1))))))) p.2.1 (fun (y : Int) => k (.i y) []))
 (none)
def wm3 (args : List AV) (st : St) (k : K1) : Option Res :=
 vai [.lst tVersion, .str, .i] [] args st (fun p q => vv7 p.1 p.2.1 p.2.2.1 (fun (y : Int) => k (.i y) []))
 (none)
def wmi (args : List AV) (st : St) (k : K1) : Option Res :=
 vai [.lst tVersion, .str, .i] [] args st (fun p q => v1d p.1 p.2.1 p.2.2.1 (fun (y : (ByteArray × Bool)) => k (.tup [.str y.1, .bool y.2]) []))
 (none)
def wmo (args : List AV) (st : St) (k : K1) : Option Res :=
 vai [.agg [.i, .i, .i, .i, .lst tRange, .lst tWrite, .bool, .str], .lst tVersion, .str] [] args st (fun p q => v2x (p.1.1, (p.1.2.1, (p.1.2.2.1, (p.1.2.2.2.1, (p.1.2.2.2.2.1, (p.1.2.2.2.2.2.1, (p.1.2.2.2.2.2.2.1, p.1.2.2.2.2.2.2.2.1))))))) p.2.1 p.2.2.1 (fun (y : (ByteArray × Bool)) => k (.tup [.str y.1, .bool y.2]) []))
 (none)
def wm9 (args : List AV) (st : St) (k : K1) : Option Res :=
 vai [.agg [.str, .str], .str] [] args st (fun p q => vxb (p.1.1, p.1.2.1) p.2.1 (fun (y : Bool) => k (.bool y) []))
 (none)
def wm8 (args : List AV) (st : St) (k : K1) : Option Res :=
 vai [.agg [.i, .i, .i, .i, .lst tRange, .lst tWrite, .bool, .str], .lst tVersion, .agg [.str, .str]] [] args st (fun p q => vx6 (p.1.1, (p.1.2.1, (p.1.2.2.1, (p.1.2.2.2.1, (p.1.2.2.2.2.1, (p.1.2.2.2.2.2.1, (p.1.2.2.2.2.2.2.1, p.1.2.2.2.2.2.2.2.1))))))) p.2.1 (p.2.2.1.1, p.2.2.1.2.1) (fun (y : (List vab)) => k (.own 0) [.arr tRange y]))
 (none)
def wn5 (args : List AV) (st : St) (k : K1) : Option Res :=
 vai [.agg [.lst tVersion, .lst tTxn, .lst tTxn, .i, .i, .lst tTxn], .i, .agg [.str, .str]] [] args st (fun p q => vpy ((p.1.1, (p.1.2.1, (p.1.2.2.1, (p.1.2.2.2.1, p.1.2.2.2.2.1)))), p.1.2.2.2.2.2.1) p.2.1 (p.2.2.1.1, p.2.2.1.2.1) (fun (y : q45T) => k (.tup [.agg [.own 0, .own 1, .own 2, .i y.1, .i y.2.1, .own 3], .own 4, .i y.2.2.1]) [.arr tVersion y.2.2.2.1, .dep tTxn y.2.2.2.2.1 0, .dep tTxn y.2.2.2.2.2.1 0, .dep tTxn y.2.2.2.2.2.2.1 0, .arr tRange y.2.2.2.2.2.2.2]))
 (none)
def wml (args : List AV) (st : St) (k : K1) : Option Res :=
 vai [.agg [.str, .str, .bool, .i], .agg [.str, .str, .bool, .i]] [] args st (fun p q => vxy (p.1.1, (p.1.2.1, (p.1.2.2.1, p.1.2.2.2.1))) (p.2.1.1, (p.2.1.2.1, (p.2.1.2.2.1, p.2.1.2.2.2.1))) (fun (y : Bool) => k (.bool y) []))
 (none)
def wm0 (args : List AV) (st : St) (k : K1) : Option Res :=
 vai [.lst tVersion, .lst tVersion] [] args st (fun p q => vxe p.1 p.2.1 (fun (y : Bool) => k (.bool y) []))
 (none)
def wm2 (args : List AV) (st : St) (k : K1) : Option Res :=
 vai [.agg [.str, .str], .agg [.str, .str]] [] args st (fun p q => vvv (p.1.1, p.1.2.1) (p.2.1.1, p.2.1.2.1) (fun (y : Bool) => k (.bool y) []))
 (none)
def wn4 (args : List AV) (st : St) (k : K1) : Option Res :=
 vai [.lst tRange, .lst tRange] [] args st (fun p q => vwo p.1 p.2.1 (fun (y : Bool) => k (.bool y) []))
 (none)
def wmv (args : List AV) (st : St) (k : K1) : Option Res :=
 vai [.agg [.str, .str, .bool], .agg [.str, .str, .bool]] [] args st (fun p q => vyt (p.1.1, (p.1.2.1, p.1.2.2.1)) (p.2.1.1, (p.2.1.2.1, p.2.1.2.2.1)) (fun (y : Bool) => k (.bool y) []))
 (none)
def wmy (args : List AV) (st : St) (k : K1) : Option Res :=
 vai [.lst tWrite, .lst tWrite] [] args st (fun p q => vv1 p.1 p.2.1 (fun (y : Bool) => k (.bool y) []))
 (none)
def wnp (args : List AV) (st : St) (k : K1) : Option Res :=
 vai [.agg [.i, .i, .i, .i, .lst tRange, .lst tWrite, .bool, .str], .agg [.i, .i, .i, .i, .lst tRange, .lst tWrite, .bool, .str]] [] args st (fun p q => vrf (p.1.1, (p.1.2.1, (p.1.2.2.1, (p.1.2.2.2.1, (p.1.2.2.2.2.1, (p.1.2.2.2.2.2.1, (p.1.2.2.2.2.2.2.1, p.1.2.2.2.2.2.2.2.1))))))) (p.2.1.1, (p.2.1.2.1, (p.2.1.2.2.1, (p.2.1.2.2.2.1, (p.2.1.2.2.2.2.1, (p.2.1.2.2.2.2.2.1, (p.2.1.2.2.2.2.2.2.1, p.2.1.2.2.2.2.2.2.2.1))))))) (fun (y : Bool) => k (.bool y) []))
 (none)
def wog (args : List AV) (st : St) (k : K1) : Option Res :=
 vai [.lst tTxn, .lst tTxn] [] args st (fun p q => vob p.1 p.2.1 (fun (y : Bool) => k (.bool y) []))
 (none)
def wno (args : List AV) (st : St) (k : K1) : Option Res :=
 vai [.agg [.lst tVersion, .lst tTxn, .lst tTxn, .i, .i], .agg [.lst tVersion, .lst tTxn, .lst tTxn, .i, .i]] [] args st (fun p q => vwv (p.1.1, (p.1.2.1, (p.1.2.2.1, (p.1.2.2.2.1, p.1.2.2.2.2.1)))) (p.2.1.1, (p.2.1.2.1, (p.2.1.2.2.1, (p.2.1.2.2.2.1, p.2.1.2.2.2.2.1)))) (fun (y : Bool) => k (.bool y) []))
 (none)
def wob (args : List AV) (st : St) (k : K1) : Option Res :=
 vai [.agg [.lst tVersion, .lst tTxn, .lst tTxn, .i, .i, .lst tTxn], .agg [.lst tVersion, .lst tTxn, .lst tTxn, .i, .i, .lst tTxn]] [] args st (fun p q => vft ((p.1.1, (p.1.2.1, (p.1.2.2.1, (p.1.2.2.2.1, p.1.2.2.2.2.1)))), p.1.2.2.2.2.2.1) ((p.2.1.1, (p.2.1.2.1, (p.2.1.2.2.1, (p.2.1.2.2.2.1, p.2.1.2.2.2.2.1)))), p.2.1.2.2.2.2.2.1) (fun (y : Bool) => k (.bool y) []))
 (none)
def wmj (args : List AV) (st : St) (k : K1) : Option Res :=
 vai [.agg [.str, .str], .agg [.str, .str]] [] args st (fun p q => vye (p.1.1, p.1.2.1) (p.2.1.1, p.2.1.2.1) (fun (y : Bool) => k (.bool y) []))
 (none)
def wnd (args : List AV) (st : St) (k : K1) : Option Res :=
 vai [.lst tRange, .lst tRange] [] args st (fun p q => vkf p.1 p.2.1 (fun (y : Bool) => k (.bool y) []))
 (none)
def wna (args : List AV) (st : St) (k : K1) : Option Res :=
 vai [.i] [] args st (fun p q => vbk p.1 (fun (y : ByteArray) => k (.str y) []))
 (none)
def vfh (args : List AV) (st : St) (k : K1) : Option Res :=
 vai [.own 0, .i] [.arr tVersion] args st (fun p q => v07 p.2.1 q.1 (fun (y : (Int × (List vaa))) => k (.i y.1) [.arr tVersion y.2]))
 (none)
def vhn (args : List AV) (st : St) (k : K1) : Option Res :=
 vai [.own 0, .i] [.arr tRange] args st (fun p q => v2p p.2.1 q.1 (fun (y : (Int × (List vab))) => k (.i y.1) [.arr tRange y.2]))
 (none)
def vhc (args : List AV) (st : St) (k : K1) : Option Res :=
 vai [.own 0, .i] [.arr tWrite] args st (fun p q => v3c p.2.1 q.1 (fun (y : (Int × (List vaf))) => k (.i y.1) [.arr tWrite y.2]))
 (none)
def vi6 (args : List AV) (st : St) (k : K1) : Option Res :=
 vai [.own 0, .i] [.dep tTxn 0] args st (fun p q => vr7 p.2.1 q.1 (fun (y : (Int × (List dTxn))) => k (.i y.1) [.dep tTxn y.2 0]))
 (none)
def vj4 (args : List AV) (st : St) (k : K1) : Option Res :=
 vai [.agg [.own 0, .own 1, .own 2, .i, .i], .i] [.arr tVersion, .dep tTxn 0, .dep tTxn 0] args st (fun p q => v2e p.1.2.2.2.1 p.1.2.2.2.2.1 p.2.1 q.1 q.2.1 q.2.2.1 (fun (y : q40T) => k (.i y.1) [.arr tVersion y.2.1, .dep tTxn y.2.2.1 0, .dep tTxn y.2.2.2 0]))
 (none)
def vhp (args : List AV) (st : St) (k : K1) : Option Res :=
 vai [.agg [.own 0, .own 1, .own 2, .i, .i, .own 3], .i] [.arr tVersion, .dep tTxn 0, .dep tTxn 0, .dep tTxn 0] args st (fun p q => vo6 p.1.2.2.2.1 p.1.2.2.2.2.1 p.2.1 q.1 q.2.1 q.2.2.1 q.2.2.2.1 (fun (y : q39T) => k (.i y.1) [.arr tVersion y.2.1, .dep tTxn y.2.2.1 0, .dep tTxn y.2.2.2.1 0, .dep tTxn y.2.2.2.2 0]))
 (none)
def viz (args : List AV) (st : St) (k : K1) : Option Res :=
 vai [.own 0, .i] [.arr tRange] args st (fun p q => vvr p.2.1 q.1 (fun (y : (Int × (List vab))) => k (.i y.1) [.arr tRange y.2]))
 (none)
def wni (args : List AV) (st : St) (k : K1) : Option Res :=
 vai [.lst tVersion, .i] [] args st (fun p q => vxf p.1 p.2.1 (fun (y : Int) => k (.i y) []))
 (none)
def wol (args : List AV) (st : St) (k : K1) : Option Res :=
 vai [.lst tRange, .i] [] args st (fun p q => vrb p.1 p.2.1 (fun (y : Int) => k (.i y) []))
 (none)
def wm6 (args : List AV) (st : St) (k : K1) : Option Res :=
 vai [.lst tWrite, .i] [] args st (fun p q => vst p.1 p.2.1 (fun (y : Int) => k (.i y) []))
 (none)
def wmc (args : List AV) (st : St) (k : K1) : Option Res :=
 vai [.lst tTxn, .i] [] args st (fun p q => vqc p.1 p.2.1 (fun (y : Int) => k (.i y) []))
 (none)
def wnz (args : List AV) (st : St) (k : K1) : Option Res :=
 vai [.agg [.lst tVersion, .lst tTxn, .lst tTxn, .i, .i], .i] [] args st (fun p q => v1z (p.1.1, (p.1.2.1, (p.1.2.2.1, (p.1.2.2.2.1, p.1.2.2.2.2.1)))) p.2.1 (fun (y : Int) => k (.i y) []))
 (none)
def wm5 (args : List AV) (st : St) (k : K1) : Option Res :=
 vai [.agg [.lst tVersion, .lst tTxn, .lst tTxn, .i, .i, .lst tTxn], .i] [] args st (fun p q => vn5 ((p.1.1, (p.1.2.1, (p.1.2.2.1, (p.1.2.2.2.1, p.1.2.2.2.2.1)))), p.1.2.2.2.2.2.1) p.2.1 (fun (y : Int) => k (.i y) []))
 (none)
def wmn (args : List AV) (st : St) (k : K1) : Option Res :=
 vai [.lst tRange, .i] [] args st (fun p q => vox p.1 p.2.1 (fun (y : Int) => k (.i y) []))
 (none)
def whd (args : List AV) (st : St) (k : K1) : Option Res :=
 vai [.agg [.lst tVersion, .lst tTxn, .lst tTxn, .i, .i, .lst tTxn], .i, .agg [.str, .str]] [] args st (fun p q => v2j ((p.1.1, (p.1.2.1, (p.1.2.2.1, (p.1.2.2.2.1, p.1.2.2.2.2.1)))), p.1.2.2.2.2.2.1) p.2.1 (p.2.2.1.1, p.2.2.1.2.1) (fun (y : Bool) => k (.bool y) []))
 (none)
end
end Go.VE
