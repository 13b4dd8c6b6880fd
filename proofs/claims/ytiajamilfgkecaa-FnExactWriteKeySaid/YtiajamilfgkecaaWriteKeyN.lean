/- Native programs of the functions, written by gen.py. -/
import Derived.Test.YtiajamilfgkecaaT0
import Derived.Test.YtiajamilfgkecaaU29
namespace Go.VE
noncomputable section
set_option linter.unusedVariables false
set_option linter.unusedSimpArgs false
set_option maxRecDepth 100000
abbrev q0T : Type := ((List vab) × (List vab) × Bool × Int)
abbrev q1T : Type := ((List vab) × Int × (List vab))
abbrev q2T : Type := ((List vab) × Int × Int × Int)
abbrev q3T : Type := ((List vaa) × (List vaa) × Bool × Int)
abbrev q4T : Type := ((List vaa) × Bool × (List vaa) × Int × Int)
abbrev q5T : Type := ((List vaa) × Int × (List vaa))
abbrev q6T : Type := ((List vaa) × Int × ByteArray × ByteArray × Bool × (List vaa))
abbrev q7T : Type := ((List vaa) × Int × Int × Int)
abbrev q8T : Type := (Bool × (List vab) × (List vaa))
abbrev q9T : Type := (Bool × (List vab) × Int × Int × Int × Int × Int × Int × (List vab) × (List vaa) × Bool × ByteArray)
abbrev q10T : Type := (Bool × Bool × Bool × Int × Int × Int × Int × (List vab) × (List vaa) × Bool × ByteArray × ByteArray × ByteArray × Bool × Int × Int × Int × Int × Bool × ByteArray × Int × Int × Int × Int × Bool × ByteArray × Int × Int × Int × Int × Bool × ByteArray × (List vab) × (List vaa) × (List vab) × (List vaa) × (List vab) × (List vaa))
abbrev q11T : Type := (Bool × Bool × Int × Int × Int × Int × (List vab) × (List vaa) × Bool × ByteArray × ByteArray × ByteArray × Bool × Int × Int × Int × Int × Bool × ByteArray × Int × Int × Int × Int × Bool × ByteArray × (List vab) × (List vaa) × (List vab) × (List vaa))
abbrev q12T : Type := (Bool × Int × Int × Int × Int × (List vab) × (List vaa) × Bool × ByteArray × ByteArray × ByteArray × Bool × Int × Int × Int × Int × Bool × ByteArray × Int × Int × Int × Int × Bool × ByteArray × (List vab) × (List vaa) × (List vab) × (List vaa))
abbrev q13T : Type := (Bool × Int × Int × Int × Int × (List vab) × (List vaa) × Bool × ByteArray × ByteArray × ByteArray × Bool × Int × Int × Int × Int × Bool × ByteArray × Int × Int × Int × Int × Bool × ByteArray × (List vab) × (List vaa))
abbrev q14T : Type := (Bool × Int × Int × Int × Int × (List vab) × (List vaa) × Bool × ByteArray)
abbrev q15T : Type := (Bool × Int × Int × Int × Int × Bool × ByteArray × (List vab) × (List vaa) × (List vaa))
abbrev q16T : Type := (Bool × Int × Int × Int × Int × Bool × ByteArray × (List vab) × (List vaa))
abbrev q17T : Type := (Bool × Int × Int × Int × Int × Int × (List vab) × (List vaa) × Bool × ByteArray)
abbrev q18T : Type := (Bool × Int × Int × Int × Int × Int × Bool × ByteArray × (List vab) × (List vaa))
abbrev q19T : Type := (Int × (List vab) × (List vaa))
abbrev q20T : Type := (Int × ByteArray × ByteArray × Bool × (List vaa))
abbrev q21T : Type := (Int × Int × Int × Int × Bool × ByteArray × (List vab) × (List vaa))
abbrev q22T : Type := (Int × Int × Int × Int × Bool × ByteArray × Bool × (List vab) × (List vaa))
def vym (a0 : vab) (a1 : Int) (k : Int → Option Res) : Option Res :=
 bif (decide ((IntKind.wrap .i64 (a1 - (a0.1.size : Int))) < (0 : Int))) then
 k (-1 : Int)
 else
 bif (decide ((IntKind.wrap .i64 ((IntKind.wrap .i64 (a1 - (a0.1.size : Int))) - (a0.2.size : Int))) < (0 : Int))) then
 k (-1 : Int)
 else
 k (IntKind.wrap .i64 ((IntKind.wrap .i64 (a1 - (a0.1.size : Int))) - (a0.2.size : Int)))
def vqq := shut vym
theorem v1m : vqq = vym := val _
instance n22n_p (a0 : vab) (a1 : Int) : ParC (vqq a0 a1) := by rw [v1m]; unfold vym; (try dsimp only); infer_instance
def vhw (x : q2T) (k : q2T ⊕ (q2T ⊕ q2T) → Option Res) : Option Res :=
 bif (decide (x.2.2.2 < (x.1.length : Int))) then
 if 0 ≤ x.2.2.2 ∧ x.2.2.2 < (x.1.length : Int) then
 vqq (rd (Ty.zero tRange) x.1 x.2.2.2) x.2.1 (fun y3 =>
 bif (decide (y3 < 0)) then
 k (.inr (.inl (x.1, y3, (-1 : Int), x.2.2.2)))
 else
 k (.inl (x.1, y3, x.2.2.1, (IntKind.wrap .i64 (x.2.2.2 + 1)))))
 else none
 else
 k (.inr (.inr (x.1, x.2.1, x.2.2.1, x.2.2.2)))
instance n23n_bp0 (x : q2T) : ParC (vhw x) := by unfold vhw; (try dsimp only); infer_instance
def vw5 (a0 : (List vab)) (a1 : Int) (k : Int → Option Res) : Option Res :=
 bif (decide ((IntKind.wrap .i64 (a1 - (a0.length : Int))) < (0 : Int))) then
 k (-1 : Int)
 else
 vai vhw Fuel (a0, (IntKind.wrap .i64 (a1 - (a0.length : Int))), 0, 0) (Sum.elim (fun z1 =>
 k z1.2.2.1) (fun z2 =>
 k z2.2.1))
def vtv := shut vw5
theorem v18 : vtv = vw5 := val _
instance n23n_p (a0 : (List vab)) (a1 : Int) : ParC (vtv a0 a1) := by rw [v18]; unfold vw5; (try dsimp only); infer_instance
def vxv (a0 : vaa) (a1 : Int) (k : Int → Option Res) : Option Res :=
 bif (decide ((IntKind.wrap .i64 (a1 - (a0.1.size : Int))) < (0 : Int))) then
 k (-1 : Int)
 else
 bif (decide ((IntKind.wrap .i64 ((IntKind.wrap .i64 (a1 - (a0.1.size : Int))) - (a0.2.1.size : Int))) < (0 : Int))) then
 k (-1 : Int)
 else
 k (IntKind.wrap .i64 ((IntKind.wrap .i64 (a1 - (a0.1.size : Int))) - (a0.2.1.size : Int)))
def vl3 := shut vxv
theorem v27 : vl3 = vxv := val _
instance n25n_p (a0 : vaa) (a1 : Int) : ParC (vl3 a0 a1) := by rw [v27]; unfold vxv; (try dsimp only); infer_instance
def vhz (x : q7T) (k : q7T ⊕ (q7T ⊕ q7T) → Option Res) : Option Res :=
 bif (decide (x.2.2.2 < (x.1.length : Int))) then
 if 0 ≤ x.2.2.2 ∧ x.2.2.2 < (x.1.length : Int) then
 vl3 (rd (Ty.zero tWrite) x.1 x.2.2.2) x.2.1 (fun y3 =>
 bif (decide (y3 < 0)) then
 k (.inr (.inl (x.1, y3, (-1 : Int), x.2.2.2)))
 else
 k (.inl (x.1, y3, x.2.2.1, (IntKind.wrap .i64 (x.2.2.2 + 1)))))
 else none
 else
 k (.inr (.inr (x.1, x.2.1, x.2.2.1, x.2.2.2)))
instance n26n_bp0 (x : q7T) : ParC (vhz x) := by unfold vhz; (try dsimp only); infer_instance
def vxb (a0 : (List vaa)) (a1 : Int) (k : Int → Option Res) : Option Res :=
 bif (decide ((IntKind.wrap .i64 (a1 - (a0.length : Int))) < (0 : Int))) then
 k (-1 : Int)
 else
 vai vhz Fuel (a0, (IntKind.wrap .i64 (a1 - (a0.length : Int))), 0, 0) (Sum.elim (fun z1 =>
 k z1.2.2.1) (fun z2 =>
 k z2.2.1))
def vvi := shut vxb
theorem v0n : vvi = vxb := val _
instance n26n_p (a0 : (List vaa)) (a1 : Int) : ParC (vvi a0 a1) := by rw [v0n]; unfold vxb; (try dsimp only); infer_instance
def vxp (a0 : dTxn) (a1 : Int) (k : Int → Option Res) : Option Res :=
 vtv a0.2.2.2.2.1 a1 (fun y1 =>
 bif (decide (y1 < 0)) then
 k (-1 : Int)
 else
 vvi a0.2.2.2.2.2.1 y1 (fun y2 =>
 bif (decide (y2 < 0)) then
 k (-1 : Int)
 else
 bif (decide ((IntKind.wrap .i64 (y2 - (a0.2.2.2.2.2.2.2.size : Int))) < (0 : Int))) then
 k (-1 : Int)
 else
 k (IntKind.wrap .i64 (y2 - (a0.2.2.2.2.2.2.2.size : Int)))))
def vro := shut vxp
theorem v2y : vro = vxp := val _
instance n24n_p (a0 : dTxn) (a1 : Int) : ParC (vro a0 a1) := by rw [v2y]; unfold vxp; (try dsimp only); infer_instance
def v26 (a0 : vab) (k : (ByteArray × ByteArray) → Option Res) : Option Res :=
 k (a0.1, a0.2)
def vrp := shut v26
theorem v0w : vrp = v26 := val _
instance n27n_p (a0 : vab) : ParC (vrp a0) := by rw [v0w]; unfold v26; (try dsimp only); infer_instance
def via (x : q1T) (k : q1T ⊕ q1T → Option Res) : Option Res :=
 bif (decide (x.2.1 < (x.1.length : Int))) then
 if 0 ≤ x.2.1 ∧ x.2.1 < (x.1.length : Int) then
 vrp (rd (Ty.zero tRange) x.1 x.2.1) (fun y2 =>
 if 0 ≤ x.2.1 ∧ x.2.1 < (x.2.2.length : Int) then
 k (.inl (x.1, (IntKind.wrap .i64 (x.2.1 + 1)), (x.2.2.set x.2.1.toNat y2)))
 else none)
 else none
 else
 k (.inr (x.1, x.2.1, x.2.2))
instance n28n_bp0 (x : q1T) : ParC (via x) := by unfold via; (try dsimp only); infer_instance
def vxo (a0 : (List vab)) (k : (List vab) → Option Res) : Option Res :=
 if 0 ≤ (a0.length : Int) ∧ (a0.length : Int) ≤ (a0.length : Int) ∧ (a0.length : Int) ≤ (VE.maxLen : Int) then
 vai via Fuel (a0, 0, (List.replicate (a0.length : Int).toNat (Ty.zero tRange))) (fun z1 =>
 k z1.2.2)
 else none
def vq6 := shut vxo
theorem v1a : vq6 = vxo := val _
instance n28n_p (a0 : (List vab)) : ParC (vq6 a0) := by rw [v1a]; unfold vxo; (try dsimp only); infer_instance
def v0u (a0 : vaa) (k : (ByteArray × ByteArray × Bool) → Option Res) : Option Res :=
 k (a0.1, a0.2.1, a0.2.2)
def vg2 := shut v0u
theorem v2a : vg2 = v0u := val _
instance n30n_p (a0 : vaa) : ParC (vg2 a0) := by rw [v2a]; unfold v0u; (try dsimp only); infer_instance
def vh3 (x : q5T) (k : q5T ⊕ q5T → Option Res) : Option Res :=
 bif (decide (x.2.1 < (x.1.length : Int))) then
 if 0 ≤ x.2.1 ∧ x.2.1 < (x.1.length : Int) then
 vg2 (rd (Ty.zero tWrite) x.1 x.2.1) (fun y2 =>
 if 0 ≤ x.2.1 ∧ x.2.1 < (x.2.2.length : Int) then
 k (.inl (x.1, (IntKind.wrap .i64 (x.2.1 + 1)), (x.2.2.set x.2.1.toNat y2)))
 else none)
 else none
 else
 k (.inr (x.1, x.2.1, x.2.2))
instance n31n_bp0 (x : q5T) : ParC (vh3 x) := by unfold vh3; (try dsimp only); infer_instance
def vyw (a0 : (List vaa)) (k : (List vaa) → Option Res) : Option Res :=
 if 0 ≤ (a0.length : Int) ∧ (a0.length : Int) ≤ (a0.length : Int) ∧ (a0.length : Int) ≤ (VE.maxLen : Int) then
 vai vh3 Fuel (a0, 0, (List.replicate (a0.length : Int).toNat (Ty.zero tWrite))) (fun z1 =>
 k z1.2.2)
 else none
def vp1 := shut vyw
theorem v19 : vp1 = vyw := val _
instance n31n_p (a0 : (List vaa)) : ParC (vp1 a0) := by rw [v19]; unfold vyw; (try dsimp only); infer_instance
def vxh (a0 : dTxn) (k : q21T → Option Res) : Option Res :=
 vq6 a0.2.2.2.2.1 (fun y1 =>
 vp1 a0.2.2.2.2.2.1 (fun y2 =>
 k (a0.1, a0.2.1, a0.2.2.1, a0.2.2.2.1, a0.2.2.2.2.2.2.1, a0.2.2.2.2.2.2.2, y1, y2)))
def vgc := shut vxh
theorem v1l : vgc = vxh := val _
instance n29n_p (a0 : dTxn) : ParC (vgc a0) := by rw [v1l]; unfold vxh; (try dsimp only); infer_instance
def vyu (a0 : dTxn) (k : q21T → Option Res) : Option Res :=
 if ([] : List vab).length + a0.2.2.2.2.1.length ≤ VE.maxLen then
 if ([] : List vaa).length + a0.2.2.2.2.2.1.length ≤ VE.maxLen then
 k (a0.1, a0.2.1, a0.2.2.1, a0.2.2.2.1, a0.2.2.2.2.2.2.1, a0.2.2.2.2.2.2.2, (([] : List vab) ++ a0.2.2.2.2.1), (([] : List vaa) ++ a0.2.2.2.2.2.1))
 else none
 else none
def vlw := shut vyu
theorem v22 : vlw = vyu := val _
instance n41n_p (a0 : dTxn) : ParC (vlw a0) := by rw [v22]; unfold vyu; (try dsimp only); infer_instance
def vxe (a0 : Int) (a1 : Int) (a2 : Int) (k : Bool → Option Res) : Option Res :=
 bif (decide (a0 ≥ a1)) then
 k (decide (a0 ≤ a2))
 else
 k false
def vex := shut vxe
theorem v08 : vex = vxe := val _
instance n40n_p (a0 : Int) (a1 : Int) (a2 : Int) : ParC (vex a0 a1 a2) := by rw [v08]; unfold vxe; (try dsimp only); infer_instance
def vhc (x : (ByteArray × Bool × Int)) (k : (ByteArray × Bool × Int) ⊕ ((ByteArray × Bool × Int) ⊕ (ByteArray × Bool × Int)) → Option Res) : Option Res :=
 bif (decide (x.2.2 < (x.1.size : Int))) then
 if 0 ≤ x.2.2 ∧ x.2.2 < (x.1.size : Int) then
 bif (decide ((bt x.1 x.2.2) < (97 : Int))) then
 k (.inr (.inl (x.1, false, x.2.2)))
 else
 if 0 ≤ x.2.2 ∧ x.2.2 < (x.1.size : Int) then
 bif (decide ((bt x.1 x.2.2) > (122 : Int))) then
 k (.inr (.inl (x.1, false, x.2.2)))
 else
 k (.inl (x.1, x.2.1, (IntKind.wrap .i64 (x.2.2 + 1))))
 else none
 else none
 else
 k (.inr (.inr (x.1, x.2.1, x.2.2)))
instance n33n_bp0 (x : (ByteArray × Bool × Int)) : ParC (vhc x) := by unfold vhc; (try dsimp only); infer_instance
def vyp (a0 : ByteArray) (k : Bool → Option Res) : Option Res :=
 vai vhc Fuel (a0, false, 0) (Sum.elim (fun z1 =>
 k z1.2.1) (fun z2 =>
 vex (z2.1.size : Int) (1 : Int) (3 : Int) (fun y3 =>
 k y3)))
def vjg := shut vyp
theorem v09 : vjg = vyp := val _
instance n33n_p (a0 : ByteArray) : ParC (vjg a0) := by rw [v09]; unfold vyp; (try dsimp only); infer_instance
def vx1 (a0 : vaa) (k : Bool → Option Res) : Option Res :=
 vjg a0.1 (fun y1 =>
 bif y1 then
 bif (decide ((a0.2.1.size : Int) ≤ (12 : Int))) then
 bif (!a0.2.2) then
 k true
 else
 k (vay a0.2.1 (⟨#[]⟩ : ByteArray))
 else
 k false
 else
 k false)
def vl4 := shut vx1
theorem v2p : vl4 = vx1 := val _
instance n38n_p (a0 : vaa) : ParC (vl4 a0) := by rw [v2p]; unfold vx1; (try dsimp only); infer_instance
def vib (x : ((List vaa) × Bool × Int)) (k : ((List vaa) × Bool × Int) ⊕ (((List vaa) × Bool × Int) ⊕ ((List vaa) × Bool × Int)) → Option Res) : Option Res :=
 bif (decide (x.2.2 < (x.1.length : Int))) then
 if 0 ≤ x.2.2 ∧ x.2.2 < (x.1.length : Int) then
 vl4 (rd (Ty.zero tWrite) x.1 x.2.2) (fun y3 =>
 bif (!y3) then
 k (.inr (.inl (x.1, false, x.2.2)))
 else
 bif (decide (x.2.2 > 0)) then
 if 0 ≤ (IntKind.wrap .i64 (x.2.2 - 1)) ∧ (IntKind.wrap .i64 (x.2.2 - 1)) < (x.1.length : Int) then
 if 0 ≤ x.2.2 ∧ x.2.2 < (x.1.length : Int) then
 bif (!(vac ((rd (Ty.zero tWrite) x.1 (IntKind.wrap .i64 (x.2.2 - 1))).1) ((rd (Ty.zero tWrite) x.1 x.2.2).1))) then
 k (.inr (.inl (x.1, false, x.2.2)))
 else
 k (.inl (x.1, x.2.1, (IntKind.wrap .i64 (x.2.2 + 1))))
 else none
 else none
 else
 k (.inl (x.1, x.2.1, (IntKind.wrap .i64 (x.2.2 + 1)))))
 else none
 else
 k (.inr (.inr (x.1, x.2.1, x.2.2)))
instance n39n_bp0 (x : ((List vaa) × Bool × Int)) : ParC (vib x) := by unfold vib; (try dsimp only); infer_instance
def vw9 (a0 : (List vaa)) (k : Bool → Option Res) : Option Res :=
 vai vib Fuel (a0, false, 0) (Sum.elim (fun z1 =>
 k z1.2.1) (fun z2 =>
 k (decide ((z2.1.length : Int) ≤ (8 : Int)))))
def vk8 := shut vw9
theorem v3b : vk8 = vw9 := val _
instance n39n_p (a0 : (List vaa)) : ParC (vk8 a0) := by rw [v3b]; unfold vw9; (try dsimp only); infer_instance
def vyq (a0 : vab) (k : Bool → Option Res) : Option Res :=
 vjg a0.1 (fun y1 =>
 bif y1 then
 vjg a0.2 (fun y2 =>
 bif y2 then
 k ((vac a0.1 a0.2) || (vay a0.1 a0.2))
 else
 k false)
 else
 k false)
def vqw := shut vyq
theorem v1d : vqw = vyq := val _
instance n35n_p (a0 : vab) : ParC (vqw a0) := by rw [v1d]; unfold vyq; (try dsimp only); infer_instance
def vbb (x : q14T) (k : q14T → Option Res) : Option Res :=
 let xh := x.2.2.2.2.2.2.2.2
 bif (x.2.2.1 != (1 : Int)) then
 k (true, x.2.1, x.2.2.1, x.2.2.2.1, x.2.2.2.2.1, x.2.2.2.2.2.1, x.2.2.2.2.2.2.1, x.2.2.2.2.2.2.2.1, xh)
 else
 k ((!x.2.2.2.2.2.2.2.1), x.2.1, x.2.2.1, x.2.2.2.1, x.2.2.2.2.1, x.2.2.2.2.2.1, x.2.2.2.2.2.2.1, x.2.2.2.2.2.2.2.1, xh)
instance n36n_jp5000012 (x : q14T) : ParC (vbb x) := by unfold vbb; (try dsimp only); infer_instance
def vbc (x : q14T) (k : q14T → Option Res) : Option Res :=
 let xh := x.2.2.2.2.2.2.2.2
 let t0 := (x.1, x.2.1, x.2.2.1, x.2.2.2.1, x.2.2.2.2.1, x.2.2.2.2.2.1, x.2.2.2.2.2.2.1, x.2.2.2.2.2.2.2.1, xh)
 let t1 := (false, x.2.1, x.2.2.1, x.2.2.2.1, x.2.2.2.2.1, x.2.2.2.2.2.1, x.2.2.2.2.2.2.1, x.2.2.2.2.2.2.2.1, xh)
 bif (x.2.2.1 == (2 : Int)) then
 vjg xh (fun y14 =>
 bif (!y14) then
 k t1
 else
 bif (x.2.2.1 != (2 : Int)) then
 bif (!(vay xh (⟨#[]⟩ : ByteArray))) then
 k t1
 else
 vbb t0 (fun z15 =>
 k (z15.1, z15.2.1, z15.2.2.1, z15.2.2.2.1, z15.2.2.2.2.1, z15.2.2.2.2.2.1, z15.2.2.2.2.2.2.1, z15.2.2.2.2.2.2.2.1, z15.2.2.2.2.2.2.2.2))
 else
 vbb t0 (fun z16 =>
 k (z16.1, z16.2.1, z16.2.2.1, z16.2.2.2.1, z16.2.2.2.2.1, z16.2.2.2.2.2.1, z16.2.2.2.2.2.2.1, z16.2.2.2.2.2.2.2.1, z16.2.2.2.2.2.2.2.2)))
 else
 bif (x.2.2.1 != (2 : Int)) then
 bif (!(vay xh (⟨#[]⟩ : ByteArray))) then
 k t1
 else
 vbb t0 (fun z17 =>
 k (z17.1, z17.2.1, z17.2.2.1, z17.2.2.2.1, z17.2.2.2.2.1, z17.2.2.2.2.2.1, z17.2.2.2.2.2.2.1, z17.2.2.2.2.2.2.2.1, z17.2.2.2.2.2.2.2.2))
 else
 vbb t0 (fun z18 =>
 k (z18.1, z18.2.1, z18.2.2.1, z18.2.2.2.1, z18.2.2.2.2.1, z18.2.2.2.2.2.1, z18.2.2.2.2.2.2.1, z18.2.2.2.2.2.2.2.1, z18.2.2.2.2.2.2.2.2))
instance n36n_jp5000010 (x : q14T) : ParC (vbc x) := by unfold vbc; (try dsimp only); exact ⟨(vak ((n33n_p _).p.bind fun y14 => (vak (vah _) (vak (vak (vah _) ((n36n_jp5000012 _).p.bind fun z15 => (vah _))) ((n36n_jp5000012 _).p.bind fun z16 => (vah _))))) (vak (vak (vah _) ((n36n_jp5000012 _).p.bind fun z17 => (vah _))) ((n36n_jp5000012 _).p.bind fun z18 => (vah _))))⟩
def vin (x : q17T) (k : q17T ⊕ (q17T ⊕ q17T) → Option Res) : Option Res :=
 let xh := x.2.2.2.2.2.2.2.2
 bif (decide (x.2.1 < (x.2.2.2.2.2.2.1.length : Int))) then
 if 0 ≤ x.2.1 ∧ x.2.1 < (x.2.2.2.2.2.2.1.length : Int) then
 vqw (rd (Ty.zero tRange) x.2.2.2.2.2.2.1 x.2.1) (fun y6 =>
 bif (!y6) then
 k (.inr (.inl (false, x.2.1, x.2.2.1, x.2.2.2.1, x.2.2.2.2.1, x.2.2.2.2.2.1, x.2.2.2.2.2.2.1, x.2.2.2.2.2.2.2.1, xh.1, xh.2)))
 else
 k (.inl (x.1, (IntKind.wrap .i64 (x.2.1 + 1)), x.2.2.1, x.2.2.2.1, x.2.2.2.2.1, x.2.2.2.2.2.1, x.2.2.2.2.2.2.1, x.2.2.2.2.2.2.2.1, xh.1, xh.2)))
 else none
 else
 k (.inr (.inr (x.1, x.2.1, x.2.2.1, x.2.2.2.1, x.2.2.2.2.1, x.2.2.2.2.2.1, x.2.2.2.2.2.2.1, x.2.2.2.2.2.2.2.1, xh.1, xh.2)))
instance n36n_bp0 (x : q17T) : ParC (vin x) := by unfold vin; (try dsimp only); infer_instance
def vcg (x : q14T) (k : q14T → Option Res) : Option Res :=
 vai vin Fuel (x.1, 0, x.2.1, x.2.2.1, x.2.2.2.1, x.2.2.2.2.1, x.2.2.2.2.2.1, x.2.2.2.2.2.2.1, x.2.2.2.2.2.2.2.1, x.2.2.2.2.2.2.2.2) (Sum.elim (fun z7 =>
 let z7h := z7.2.2.2.2.2.2.2.2
 k (z7.1, z7.2.2.1, z7.2.2.2.1, z7.2.2.2.2.1, z7.2.2.2.2.2.1, z7.2.2.2.2.2.2.1, z7.2.2.2.2.2.2.2.1, z7h.1, z7h.2)) (fun z8 =>
 let z8h := z8.2.2.2.2.2.2.2.2
 bif (z8.2.2.2.1 == (3 : Int)) then
 vex z8.2.2.2.2.2.1 (IntKind.wrap .i64 (z8.2.2.2.2.1 + 1)) (9999 : Int) (fun y9 =>
 bif (!y9) then
 k (false, z8.2.2.1, z8.2.2.2.1, z8.2.2.2.2.1, z8.2.2.2.2.2.1, z8.2.2.2.2.2.2.1, z8.2.2.2.2.2.2.2.1, z8h.1, z8h.2)
 else
 bif (z8.2.2.2.1 != (3 : Int)) then
 bif (z8.2.2.2.2.2.1 != (0 : Int)) then
 k (false, z8.2.2.1, z8.2.2.2.1, z8.2.2.2.2.1, z8.2.2.2.2.2.1, z8.2.2.2.2.2.2.1, z8.2.2.2.2.2.2.2.1, z8h.1, z8h.2)
 else
 vbc (z8.1, z8.2.2.1, z8.2.2.2.1, z8.2.2.2.2.1, z8.2.2.2.2.2.1, z8.2.2.2.2.2.2.1, z8.2.2.2.2.2.2.2.1, z8h.1, z8h.2) (fun z10 =>
 k (z10.1, z10.2.1, z10.2.2.1, z10.2.2.2.1, z10.2.2.2.2.1, z10.2.2.2.2.2.1, z10.2.2.2.2.2.2.1, z10.2.2.2.2.2.2.2.1, z10.2.2.2.2.2.2.2.2))
 else
 vbc (z8.1, z8.2.2.1, z8.2.2.2.1, z8.2.2.2.2.1, z8.2.2.2.2.2.1, z8.2.2.2.2.2.2.1, z8.2.2.2.2.2.2.2.1, z8h.1, z8h.2) (fun z11 =>
 k (z11.1, z11.2.1, z11.2.2.1, z11.2.2.2.1, z11.2.2.2.2.1, z11.2.2.2.2.2.1, z11.2.2.2.2.2.2.1, z11.2.2.2.2.2.2.2.1, z11.2.2.2.2.2.2.2.2)))
 else
 bif (z8.2.2.2.1 != (3 : Int)) then
 bif (z8.2.2.2.2.2.1 != (0 : Int)) then
 k (false, z8.2.2.1, z8.2.2.2.1, z8.2.2.2.2.1, z8.2.2.2.2.2.1, z8.2.2.2.2.2.2.1, z8.2.2.2.2.2.2.2.1, z8h.1, z8h.2)
 else
 vbc (z8.1, z8.2.2.1, z8.2.2.2.1, z8.2.2.2.2.1, z8.2.2.2.2.2.1, z8.2.2.2.2.2.2.1, z8.2.2.2.2.2.2.2.1, z8h.1, z8h.2) (fun z12 =>
 k (z12.1, z12.2.1, z12.2.2.1, z12.2.2.2.1, z12.2.2.2.2.1, z12.2.2.2.2.2.1, z12.2.2.2.2.2.2.1, z12.2.2.2.2.2.2.2.1, z12.2.2.2.2.2.2.2.2))
 else
 vbc (z8.1, z8.2.2.1, z8.2.2.2.1, z8.2.2.2.2.1, z8.2.2.2.2.2.1, z8.2.2.2.2.2.2.1, z8.2.2.2.2.2.2.2.1, z8h.1, z8h.2) (fun z13 =>
 k (z13.1, z13.2.1, z13.2.2.1, z13.2.2.2.1, z13.2.2.2.2.1, z13.2.2.2.2.2.1, z13.2.2.2.2.2.2.1, z13.2.2.2.2.2.2.2.1, z13.2.2.2.2.2.2.2.2))))
instance n36n_jp5000003 (x : q14T) : ParC (vcg x) := by unfold vcg; (try dsimp only); exact ⟨((vmu (fun x => (n36n_bp0 x).p) _ _).bind2 (fun z7 => (vah _)) (fun z8 => (vak ((n40n_p _ _ _).p.bind fun y9 => (vak (vah _) (vak (vak (vah _) ((n36n_jp5000010 _).p.bind fun z10 => (vah _))) ((n36n_jp5000010 _).p.bind fun z11 => (vah _))))) (vak (vak (vah _) ((n36n_jp5000010 _).p.bind fun z12 => (vah _))) ((n36n_jp5000010 _).p.bind fun z13 => (vah _))))))⟩
def vyt (a0 : dTxn) (k : Bool → Option Res) : Option Res :=
 vex a0.1 (1 : Int) (9999 : Int) (fun y1 =>
 bif (!y1) then
 k false
 else
 vex a0.2.1 (1 : Int) (3 : Int) (fun y2 =>
 bif (!y2) then
 k false
 else
 vex a0.2.2.1 (0 : Int) (9999 : Int) (fun y3 =>
 bif (!y3) then
 k false
 else
 bif (decide ((a0.2.2.2.2.1.length : Int) > (8 : Int))) then
 k false
 else
 vk8 a0.2.2.2.2.2.1 (fun y4 =>
 bif (!y4) then
 k false
 else
 vcg (false, a0.1, a0.2.1, a0.2.2.1, a0.2.2.2.1, a0.2.2.2.2.1, a0.2.2.2.2.2.1, a0.2.2.2.2.2.2.1, a0.2.2.2.2.2.2.2) (fun z5 =>
 k z5.1)))))
def vm8 := shut vyt
theorem v25 : vm8 = vyt := val _
instance n36n_p (a0 : dTxn) : ParC (vm8 a0) := by rw [v25]; unfold vyt; (try dsimp only); exact ⟨((n40n_p _ _ _).p.bind fun y1 => (vak (vah _) ((n40n_p _ _ _).p.bind fun y2 => (vak (vah _) ((n40n_p _ _ _).p.bind fun y3 => (vak (vah _) (vak (vah _) ((n39n_p _).p.bind fun y4 => (vak (vah _) ((n36n_jp5000003 _).p.bind fun z5 => (vah _)))))))))))⟩
def vg9 (x : q6T) (k : q6T ⊕ q6T → Option Res) : Option Res :=
 bif (decide (x.2.1 < (x.1.length : Int))) then
 if 0 ≤ x.2.1 ∧ x.2.1 < (x.1.length : Int) then
 bif (vac ((rd (Ty.zero tWrite) x.1 x.2.1).1) x.2.2.1) then
 if 0 ≤ x.2.1 ∧ x.2.1 < (x.1.length : Int) then
 if x.2.2.2.2.2.length + [(rd (Ty.zero tWrite) x.1 x.2.1)].length ≤ VE.maxLen then
 k (.inl (x.1, (IntKind.wrap .i64 (x.2.1 + 1)), x.2.2.1, x.2.2.2.1, x.2.2.2.2.1, (x.2.2.2.2.2 ++ [(rd (Ty.zero tWrite) x.1 x.2.1)])))
 else none
 else none
 else
 k (.inl (x.1, (IntKind.wrap .i64 (x.2.1 + 1)), x.2.2.1, x.2.2.2.1, x.2.2.2.2.1, x.2.2.2.2.2))
 else none
 else
 k (.inr (x.1, x.2.1, x.2.2.1, x.2.2.2.1, x.2.2.2.2.1, x.2.2.2.2.2))
instance n34n_bp0 (x : q6T) : ParC (vg9 x) := by unfold vg9; (try dsimp only); infer_instance
def vik (x : q6T) (k : q6T ⊕ q6T → Option Res) : Option Res :=
 bif (decide (x.2.1 < (x.1.length : Int))) then
 if 0 ≤ x.2.1 ∧ x.2.1 < (x.1.length : Int) then
 bif (!((vac ((rd (Ty.zero tWrite) x.1 x.2.1).1) x.2.2.1) || (vay ((rd (Ty.zero tWrite) x.1 x.2.1).1) x.2.2.1))) then
 if 0 ≤ x.2.1 ∧ x.2.1 < (x.1.length : Int) then
 if x.2.2.2.2.2.length + [(rd (Ty.zero tWrite) x.1 x.2.1)].length ≤ VE.maxLen then
 k (.inl (x.1, (IntKind.wrap .i64 (x.2.1 + 1)), x.2.2.1, x.2.2.2.1, x.2.2.2.2.1, (x.2.2.2.2.2 ++ [(rd (Ty.zero tWrite) x.1 x.2.1)])))
 else none
 else none
 else
 k (.inl (x.1, (IntKind.wrap .i64 (x.2.1 + 1)), x.2.2.1, x.2.2.2.1, x.2.2.2.2.1, x.2.2.2.2.2))
 else none
 else
 k (.inr (x.1, x.2.1, x.2.2.1, x.2.2.2.1, x.2.2.2.2.1, x.2.2.2.2.2))
instance n34n_bp2 (x : q6T) : ParC (vik x) := by unfold vik; (try dsimp only); infer_instance
def vyk (a0 : (List vaa)) (a1 : vaa) (k : (List vaa) → Option Res) : Option Res :=
 vai vg9 Fuel (a0, 0, a1.1, a1.2.1, a1.2.2, ([] : List vaa)) (fun z1 =>
 if z1.2.2.2.2.2.length + [(z1.2.2.1, (z1.2.2.2.1, z1.2.2.2.2.1))].length ≤ VE.maxLen then
 vai vik Fuel (z1.1, 0, z1.2.2.1, z1.2.2.2.1, z1.2.2.2.2.1, (z1.2.2.2.2.2 ++ [(z1.2.2.1, (z1.2.2.2.1, z1.2.2.2.2.1))])) (fun z2 =>
 k z2.2.2.2.2.2)
 else none)
def vn9 := shut vyk
theorem v1t : vn9 = vyk := val _
instance n34n_p (a0 : (List vaa)) (a1 : vaa) : ParC (vn9 a0 a1) := by rw [v1t]; unfold vyk; (try dsimp only); infer_instance
def vcl (x : q12T) (k : (q13T ⊕ q12T) → Option Res) : Option Res :=
 let xh := x.2.2.2.2.2.2.2.2
 let xhh := xh.2.2.2.2.2.2.2.2
 let xhhh := xhh.2.2.2.2.2.2.2.2
 vn9 x.2.2.2.2.2.2.1 (xh.2.1, (xh.2.2.1, xh.2.2.2.1)) (fun y6 =>
 vk8 y6 (fun y7 =>
 bif (!y7) then
 vlw (x.2.1, (x.2.2.1, (x.2.2.2.1, (x.2.2.2.2.1, (x.2.2.2.2.2.1, (x.2.2.2.2.2.2.1, (x.2.2.2.2.2.2.2.1, xh.1))))))) (fun y8 =>
 k (.inr (false, x.2.1, x.2.2.1, x.2.2.2.1, x.2.2.2.2.1, x.2.2.2.2.2.1, x.2.2.2.2.2.2.1, x.2.2.2.2.2.2.2.1, xh.1, xh.2.1, xh.2.2.1, xh.2.2.2.1, y8.1, y8.2.1, y8.2.2.1, y8.2.2.2.1, y8.2.2.2.2.1, y8.2.2.2.2.2.1, xhh.2.2.1, xhh.2.2.2.1, xhh.2.2.2.2.1, xhh.2.2.2.2.2.1, xhh.2.2.2.2.2.2.1, xhh.2.2.2.2.2.2.2.1, y8.2.2.2.2.2.2.1, y8.2.2.2.2.2.2.2, xhhh.2.2.1, y6)))
 else
 k (.inl (true, x.2.1, x.2.2.1, x.2.2.2.1, x.2.2.2.2.1, x.2.2.2.2.2.1, x.2.2.2.2.2.2.1, x.2.2.2.2.2.2.2.1, xh.1, xh.2.1, xh.2.2.1, xh.2.2.2.1, xhh.2.2.1, xhh.2.2.2.1, xhh.2.2.2.2.1, xhh.2.2.2.2.2.1, xhh.2.2.2.2.2.2.1, xhh.2.2.2.2.2.2.2.1, xhh.2.2.1, xhh.2.2.2.1, xhh.2.2.2.2.1, xhh.2.2.2.2.2.1, xhh.2.2.2.2.2.2.1, xhh.2.2.2.2.2.2.2.1, xhhh.2.2.1, y6))))
instance n37n_jp5000004 (x : q12T) : ParC (vcl x) := by unfold vcl; (try dsimp only); infer_instance
def vxs (a0 : dTxn) (a1 : vaa) (k : q22T → Option Res) : Option Res :=
 vlw a0 (fun y1 =>
 vm8 a0 (fun y2 =>
 bif (!y2) then
 k (y1.1, y1.2.1, y1.2.2.1, y1.2.2.2.1, y1.2.2.2.2.1, y1.2.2.2.2.2.1, false, y1.2.2.2.2.2.2.1, y1.2.2.2.2.2.2.2)
 else
 bif (a0.2.1 != (1 : Int)) then
 k (y1.1, y1.2.1, y1.2.2.1, y1.2.2.2.1, y1.2.2.2.2.1, y1.2.2.2.2.2.1, false, y1.2.2.2.2.2.2.1, y1.2.2.2.2.2.2.2)
 else
 vl4 a1 (fun y3 =>
 bif (!y3) then
 k (y1.1, y1.2.1, y1.2.2.1, y1.2.2.2.1, y1.2.2.2.2.1, y1.2.2.2.2.2.1, false, y1.2.2.2.2.2.2.1, y1.2.2.2.2.2.2.2)
 else
 vcl (false, a0.1, a0.2.1, a0.2.2.1, a0.2.2.2.1, a0.2.2.2.2.1, a0.2.2.2.2.2.1, a0.2.2.2.2.2.2.1, a0.2.2.2.2.2.2.2, a1.1, a1.2.1, a1.2.2, 0, 0, 0, 0, false, (⟨#[]⟩ : ByteArray), y1.1, y1.2.1, y1.2.2.1, y1.2.2.2.1, y1.2.2.2.2.1, y1.2.2.2.2.2.1, ([] : List vab), ([] : List vaa), y1.2.2.2.2.2.2.1, y1.2.2.2.2.2.2.2) (Sum.elim (fun z4 =>
 let z4h := z4.2.2.2.2.2.2.2.2
 let z4hh := z4h.2.2.2.2.2.2.2.2
 let z4hhh := z4hh.2.2.2.2.2.2.2.2
 k (z4h.2.2.2.2.1, z4h.2.2.2.2.2.1, z4h.2.2.2.2.2.2.1, z4h.2.2.2.2.2.2.2.1, z4hh.1, z4hh.2.1, z4.1, z4hhh.1, z4hhh.2)) (fun z5 =>
 let z5h := z5.2.2.2.2.2.2.2.2
 let z5hh := z5h.2.2.2.2.2.2.2.2
 let z5hhh := z5hh.2.2.2.2.2.2.2.2
 k (z5h.2.2.2.2.1, z5h.2.2.2.2.2.1, z5h.2.2.2.2.2.2.1, z5h.2.2.2.2.2.2.2.1, z5hh.1, z5hh.2.1, z5.1, z5hhh.1, z5hhh.2.1))))))
def vot := shut vxs
theorem v2f : vot = vxs := val _
instance n37n_p (a0 : dTxn) (a1 : vaa) : ParC (vot a0 a1) := by rw [v2f]; unfold vxs; (try dsimp only); infer_instance
def vye (a0 : dTxn) (k : q21T → Option Res) : Option Res :=
 if a0.2.2.2.2.1.length ≤ VE.maxLen then
 if a0.2.2.2.2.2.1.length ≤ VE.maxLen then
 k (a0.1, a0.2.1, a0.2.2.1, a0.2.2.2.1, a0.2.2.2.2.2.2.1, a0.2.2.2.2.2.2.2, a0.2.2.2.2.1, a0.2.2.2.2.2.1)
 else none
 else none
def vl5 := shut vye
theorem v0x : vl5 = vye := val _
instance n07n_p (a0 : dTxn) : ParC (vl5 a0) := by rw [v0x]; unfold vye; (try dsimp only); infer_instance
def vyv (a0 : Int) (a1 : Int) (a2 : Int) (k : Bool → Option Res) : Option Res :=
 bif (decide (a0 ≥ a1)) then
 k (decide (a0 ≤ a2))
 else
 k false
def vez := shut vyv
theorem v0p : vez = vyv := val _
instance n08n_p (a0 : Int) (a1 : Int) (a2 : Int) : ParC (vez a0 a1 a2) := by rw [v0p]; unfold vyv; (try dsimp only); infer_instance
def vhq (x : (ByteArray × Bool × Int)) (k : (ByteArray × Bool × Int) ⊕ ((ByteArray × Bool × Int) ⊕ (ByteArray × Bool × Int)) → Option Res) : Option Res :=
 bif (decide (x.2.2 < (x.1.size : Int))) then
 if 0 ≤ x.2.2 ∧ x.2.2 < (x.1.size : Int) then
 bif (decide ((bt x.1 x.2.2) < (97 : Int))) then
 k (.inr (.inl (x.1, false, x.2.2)))
 else
 if 0 ≤ x.2.2 ∧ x.2.2 < (x.1.size : Int) then
 bif (decide ((bt x.1 x.2.2) > (122 : Int))) then
 k (.inr (.inl (x.1, false, x.2.2)))
 else
 k (.inl (x.1, x.2.1, (IntKind.wrap .i64 (x.2.2 + 1))))
 else none
 else none
 else
 k (.inr (.inr (x.1, x.2.1, x.2.2)))
instance n00n_bp0 (x : (ByteArray × Bool × Int)) : ParC (vhq x) := by unfold vhq; (try dsimp only); infer_instance
def vxy (a0 : ByteArray) (k : Bool → Option Res) : Option Res :=
 vai vhq Fuel (a0, false, 0) (Sum.elim (fun z1 =>
 k z1.2.1) (fun z2 =>
 vez (z2.1.size : Int) (1 : Int) (3 : Int) (fun y3 =>
 k y3)))
def vi7 := shut vxy
theorem v2g : vi7 = vxy := val _
instance n00n_p (a0 : ByteArray) : ParC (vi7 a0) := by rw [v2g]; unfold vxy; (try dsimp only); infer_instance
def vyi (a0 : vab) (k : Bool → Option Res) : Option Res :=
 vi7 a0.1 (fun y1 =>
 bif y1 then
 vi7 a0.2 (fun y2 =>
 bif y2 then
 k ((vac a0.1 a0.2) || (vay a0.1 a0.2))
 else
 k false)
 else
 k false)
def vpz := shut vyi
theorem v1q : vpz = vyi := val _
instance n02n_p (a0 : vab) : ParC (vpz a0) := by rw [v1q]; unfold vyi; (try dsimp only); infer_instance
def vyg (a0 : vaa) (k : Bool → Option Res) : Option Res :=
 vi7 a0.1 (fun y1 =>
 bif y1 then
 bif (decide ((a0.2.1.size : Int) ≤ (12 : Int))) then
 bif (!a0.2.2) then
 k true
 else
 k (vay a0.2.1 (⟨#[]⟩ : ByteArray))
 else
 k false
 else
 k false)
def vl0 := shut vyg
theorem v2l : vl0 = vyg := val _
instance n05n_p (a0 : vaa) : ParC (vl0 a0) := by rw [v2l]; unfold vyg; (try dsimp only); infer_instance
def vha (x : q4T) (k : q4T ⊕ (q4T ⊕ q4T) → Option Res) : Option Res :=
 bif (decide (x.2.2.2.2 < x.2.2.2.1)) then
 if 0 ≤ x.2.2.2.2 ∧ x.2.2.2.2 < (x.2.2.1.length : Int) then
 vl0 (rd (Ty.zero tWrite) x.2.2.1 x.2.2.2.2) (fun y3 =>
 bif (!y3) then
 k (.inr (.inl (x.1, false, x.2.2.1, x.2.2.2.1, x.2.2.2.2)))
 else
 bif (decide (x.2.2.2.2 > 0)) then
 if 0 ≤ (IntKind.wrap .i64 (x.2.2.2.2 - 1)) ∧ (IntKind.wrap .i64 (x.2.2.2.2 - 1)) < (x.1.length : Int) then
 bif (!(vac ((rd (Ty.zero tWrite) x.1 (IntKind.wrap .i64 (x.2.2.2.2 - 1))).1) ((rd (Ty.zero tWrite) x.2.2.1 x.2.2.2.2).1))) then
 k (.inr (.inl (x.1, false, x.2.2.1, x.2.2.2.1, x.2.2.2.2)))
 else
 k (.inl (x.1, x.2.1, x.2.2.1, x.2.2.2.1, (IntKind.wrap .i64 (x.2.2.2.2 + 1))))
 else none
 else
 k (.inl (x.1, x.2.1, x.2.2.1, x.2.2.2.1, (IntKind.wrap .i64 (x.2.2.2.2 + 1)))))
 else none
 else
 k (.inr (.inr (x.1, x.2.1, x.2.2.1, x.2.2.2.1, x.2.2.2.2)))
instance n06n_bp0 (x : q4T) : ParC (vha x) := by unfold vha; (try dsimp only); infer_instance
def vx7 (a0 : (List vaa)) (k : Bool → Option Res) : Option Res :=
 vai vha Fuel (a0, false, a0, (a0.length : Int), 0) (Sum.elim (fun z1 =>
 k z1.2.1) (fun z2 =>
 k (decide ((z2.1.length : Int) ≤ (8 : Int)))))
def vm5 := shut vx7
theorem v3d : vm5 = vx7 := val _
instance n06n_p (a0 : (List vaa)) : ParC (vm5 a0) := by rw [v3d]; unfold vx7; (try dsimp only); infer_instance
def vbe (x : q14T) (k : q14T → Option Res) : Option Res :=
 let xh := x.2.2.2.2.2.2.2.2
 bif (x.2.2.1 == (2 : Int)) then
 vi7 xh (fun y15 =>
 bif y15 then
 k (true, x.2.1, x.2.2.1, x.2.2.2.1, x.2.2.2.2.1, x.2.2.2.2.2.1, x.2.2.2.2.2.2.1, x.2.2.2.2.2.2.2.1, xh)
 else
 bif (x.2.2.1 != (2 : Int)) then
 k ((vay xh (⟨#[]⟩ : ByteArray)), x.2.1, x.2.2.1, x.2.2.2.1, x.2.2.2.2.1, x.2.2.2.2.2.1, x.2.2.2.2.2.2.1, x.2.2.2.2.2.2.2.1, xh)
 else
 k (false, x.2.1, x.2.2.1, x.2.2.2.1, x.2.2.2.2.1, x.2.2.2.2.2.1, x.2.2.2.2.2.2.1, x.2.2.2.2.2.2.2.1, xh))
 else
 bif (x.2.2.1 != (2 : Int)) then
 k ((vay xh (⟨#[]⟩ : ByteArray)), x.2.1, x.2.2.1, x.2.2.2.1, x.2.2.2.2.1, x.2.2.2.2.2.1, x.2.2.2.2.2.2.1, x.2.2.2.2.2.2.2.1, xh)
 else
 k (false, x.2.1, x.2.2.1, x.2.2.2.1, x.2.2.2.2.1, x.2.2.2.2.2.1, x.2.2.2.2.2.2.1, x.2.2.2.2.2.2.2.1, xh)
instance n03n_jp5000011 (x : q14T) : ParC (vbe x) := by unfold vbe; (try dsimp only); infer_instance
def vb0 (x : q14T) (k : q14T → Option Res) : Option Res :=
 let xh := x.2.2.2.2.2.2.2.2
 let t0 := (x.1, x.2.1, x.2.2.1, x.2.2.2.1, x.2.2.2.2.1, x.2.2.2.2.2.1, x.2.2.2.2.2.2.1, x.2.2.2.2.2.2.2.1, xh)
 let t1 := (false, x.2.1, x.2.2.1, x.2.2.2.1, x.2.2.2.2.1, x.2.2.2.2.2.1, x.2.2.2.2.2.2.1, x.2.2.2.2.2.2.2.1, xh)
 bif (x.2.2.1 == (3 : Int)) then
 vez x.2.2.2.2.1 (IntKind.wrap .i64 (x.2.2.2.1 + 1)) (9999 : Int) (fun y10 =>
 bif (!y10) then
 k t1
 else
 bif (x.2.2.1 != (3 : Int)) then
 bif (x.2.2.2.2.1 != (0 : Int)) then
 k t1
 else
 vbe t0 (fun z11 =>
 k (z11.1, z11.2.1, z11.2.2.1, z11.2.2.2.1, z11.2.2.2.2.1, z11.2.2.2.2.2.1, z11.2.2.2.2.2.2.1, z11.2.2.2.2.2.2.2.1, z11.2.2.2.2.2.2.2.2))
 else
 vbe t0 (fun z12 =>
 k (z12.1, z12.2.1, z12.2.2.1, z12.2.2.2.1, z12.2.2.2.2.1, z12.2.2.2.2.2.1, z12.2.2.2.2.2.2.1, z12.2.2.2.2.2.2.2.1, z12.2.2.2.2.2.2.2.2)))
 else
 bif (x.2.2.1 != (3 : Int)) then
 bif (x.2.2.2.2.1 != (0 : Int)) then
 k t1
 else
 vbe t0 (fun z13 =>
 k (z13.1, z13.2.1, z13.2.2.1, z13.2.2.2.1, z13.2.2.2.2.1, z13.2.2.2.2.2.1, z13.2.2.2.2.2.2.1, z13.2.2.2.2.2.2.2.1, z13.2.2.2.2.2.2.2.2))
 else
 vbe t0 (fun z14 =>
 k (z14.1, z14.2.1, z14.2.2.1, z14.2.2.2.1, z14.2.2.2.2.1, z14.2.2.2.2.2.1, z14.2.2.2.2.2.2.1, z14.2.2.2.2.2.2.2.1, z14.2.2.2.2.2.2.2.2))
instance n03n_jp5000009 (x : q14T) : ParC (vb0 x) := by unfold vb0; (try dsimp only); exact ⟨(vak ((n08n_p _ _ _).p.bind fun y10 => (vak (vah _) (vak (vak (vah _) ((n03n_jp5000011 _).p.bind fun z11 => (vah _))) ((n03n_jp5000011 _).p.bind fun z12 => (vah _))))) (vak (vak (vah _) ((n03n_jp5000011 _).p.bind fun z13 => (vah _))) ((n03n_jp5000011 _).p.bind fun z14 => (vah _))))⟩
def vil (x : q9T) (k : q9T ⊕ (q9T ⊕ q9T) → Option Res) : Option Res :=
 let xh := x.2.2.2.2.2.2.2.2
 bif (decide (x.2.2.2.1 < x.2.2.1)) then
 if 0 ≤ x.2.2.2.1 ∧ x.2.2.2.1 < (x.2.1.length : Int) then
 vpz (rd (Ty.zero tRange) x.2.1 x.2.2.2.1) (fun y9 =>
 bif (!y9) then
 k (.inr (.inl (false, x.2.1, x.2.2.1, x.2.2.2.1, x.2.2.2.2.1, x.2.2.2.2.2.1, x.2.2.2.2.2.2.1, x.2.2.2.2.2.2.2.1, xh.1, xh.2.1, xh.2.2.1, xh.2.2.2)))
 else
 k (.inl (x.1, x.2.1, x.2.2.1, (IntKind.wrap .i64 (x.2.2.2.1 + 1)), x.2.2.2.2.1, x.2.2.2.2.2.1, x.2.2.2.2.2.2.1, x.2.2.2.2.2.2.2.1, xh.1, xh.2.1, xh.2.2.1, xh.2.2.2)))
 else none
 else
 k (.inr (.inr (x.1, x.2.1, x.2.2.1, x.2.2.2.1, x.2.2.2.2.1, x.2.2.2.2.2.1, x.2.2.2.2.2.2.1, x.2.2.2.2.2.2.2.1, xh.1, xh.2.1, xh.2.2.1, xh.2.2.2)))
instance n03n_bp0 (x : q9T) : ParC (vil x) := by unfold vil; (try dsimp only); infer_instance
def vxq (a0 : dTxn) (k : Bool → Option Res) : Option Res :=
 vai vil Fuel (false, a0.2.2.2.2.1, (a0.2.2.2.2.1.length : Int), 0, a0.1, a0.2.1, a0.2.2.1, a0.2.2.2.1, a0.2.2.2.2.1, a0.2.2.2.2.2.1, a0.2.2.2.2.2.2.1, a0.2.2.2.2.2.2.2) (Sum.elim (fun z1 =>
 k z1.1) (fun z2 =>
 let z2h := z2.2.2.2.2.2.2.2.2
 vez z2.2.2.2.2.1 (1 : Int) (9999 : Int) (fun y3 =>
 bif (!y3) then
 k false
 else
 vez z2.2.2.2.2.2.1 (1 : Int) (3 : Int) (fun y4 =>
 bif (!y4) then
 k false
 else
 vez z2.2.2.2.2.2.2.1 (0 : Int) (9999 : Int) (fun y5 =>
 bif (!y5) then
 k false
 else
 bif (decide ((z2h.1.length : Int) > (8 : Int))) then
 k false
 else
 vm5 z2h.2.1 (fun y6 =>
 bif (!y6) then
 k false
 else
 bif z2h.2.2.1 then
 bif (z2.2.2.2.2.2.1 == (1 : Int)) then
 k false
 else
 vb0 (z2.1, z2.2.2.2.2.1, z2.2.2.2.2.2.1, z2.2.2.2.2.2.2.1, z2.2.2.2.2.2.2.2.1, z2h.1, z2h.2.1, z2h.2.2.1, z2h.2.2.2) (fun z7 =>
 k z7.1)
 else
 vb0 (z2.1, z2.2.2.2.2.1, z2.2.2.2.2.2.1, z2.2.2.2.2.2.2.1, z2.2.2.2.2.2.2.2.1, z2h.1, z2h.2.1, z2h.2.2.1, z2h.2.2.2) (fun z8 =>
 k z8.1)))))))
def vkg := shut vxq
theorem v0f : vkg = vxq := val _
instance n03n_p (a0 : dTxn) : ParC (vkg a0) := by rw [v0f]; unfold vxq; (try dsimp only); exact ⟨((vmu (fun x => (n03n_bp0 x).p) _ _).bind2 (fun z1 => (vah _)) (fun z2 => ((n08n_p _ _ _).p.bind fun y3 => (vak (vah _) ((n08n_p _ _ _).p.bind fun y4 => (vak (vah _) ((n08n_p _ _ _).p.bind fun y5 => (vak (vah _) (vak (vah _) ((n06n_p _).p.bind fun y6 => (vak (vah _) (vak (vak (vah _) ((n03n_jp5000009 _).p.bind fun z7 => (vah _))) ((n03n_jp5000009 _).p.bind fun z8 => (vah _))))))))))))))⟩
def vqk (a0 : Int) (a1 : (List vaa)) (a2 : (List vaa)) (k : ((List vaa) × (List vaa)) → Option Res) : Option Res :=
 if 0 ≤ a0 ∧ a0 ≤ (a1.length : Int) ∧ 0 < a2.length ∧ a1.length + a2.length ≤ 1073741824 then
 k (a2, (insL a1 a0 a2))
 else none
def vum := shut vqk
theorem vxg : vum = vqk := val _
instance n32n_p (a0 : Int) (a1 : (List vaa)) (a2 : (List vaa)) : ParC (vum a0 a1 a2) := by rw [vxg]; unfold vqk; (try dsimp only); infer_instance
def vc9 (x : q20T) (k : q20T → Option Res) : Option Res :=
 k ((IntKind.wrap .i64 (x.1 + 1)), x.2.1, x.2.2.1, x.2.2.2.1, x.2.2.2.2)
instance n01n_jp6000001 (x : q20T) : ParC (vc9 x) := by unfold vc9; (try dsimp only); infer_instance
def vj6 (x : q20T) (k : q20T ⊕ q20T → Option Res) : Option Res :=
 bif (decide (x.1 < (x.2.2.2.2.length : Int))) then
 if 0 ≤ x.1 ∧ x.1 < (x.2.2.2.2.length : Int) then
 bif (vac ((x.2.2.2.2.getD x.1.toNat (Ty.zero tWrite)).1) x.2.1) then
 vc9 (x.1, x.2.1, x.2.2.1, x.2.2.2.1, x.2.2.2.2) (fun z4 =>
 k (.inl (z4.1, z4.2.1, z4.2.2.1, z4.2.2.2.1, z4.2.2.2.2)))
 else
 k (.inr (x.1, x.2.1, x.2.2.1, x.2.2.2.1, x.2.2.2.2))
 else none
 else
 k (.inr (x.1, x.2.1, x.2.2.1, x.2.2.2.1, x.2.2.2.2))
instance n01n_bp0 (x : q20T) : ParC (vj6 x) := by unfold vj6; (try dsimp only); infer_instance
def vwz (a0 : (List vaa)) (a1 : vaa) (k : (List vaa) → Option Res) : Option Res :=
 if a0.length ≤ VE.maxLen then
 vai vj6 Fuel (0, a1.1, a1.2.1, a1.2.2, a0) (fun z1 =>
 bif (decide (z1.1 < (z1.2.2.2.2.length : Int))) then
 if 0 ≤ z1.1 ∧ z1.1 < (z1.2.2.2.2.length : Int) then
 bif (vay ((z1.2.2.2.2.getD z1.1.toNat (Ty.zero tWrite)).1) z1.2.1) then
 if 0 ≤ z1.1 ∧ z1.1 < (z1.2.2.2.2.length : Int) then
 k (z1.2.2.2.2.set z1.1.toNat (z1.2.1, (z1.2.2.1, z1.2.2.2.1)))
 else none
 else
 vum z1.1 z1.2.2.2.2 [(z1.2.1, (z1.2.2.1, z1.2.2.2.1))] (fun y2 =>
 k y2.2)
 else none
 else
 vum z1.1 z1.2.2.2.2 [(z1.2.1, (z1.2.2.1, z1.2.2.2.1))] (fun y3 =>
 k y3.2))
 else none
def vqj := shut vwz
theorem v1g : vqj = vwz := val _
instance n01n_p (a0 : (List vaa)) (a1 : vaa) : ParC (vqj a0 a1) := by rw [v1g]; unfold vwz; (try dsimp only); infer_instance
def vce (x : q12T) (k : (q13T ⊕ q12T) → Option Res) : Option Res :=
 let xh := x.2.2.2.2.2.2.2.2
 let xhh := xh.2.2.2.2.2.2.2.2
 let xhhh := xhh.2.2.2.2.2.2.2.2
 vqj x.2.2.2.2.2.2.1 (xh.2.1, (xh.2.2.1, xh.2.2.2.1)) (fun y6 =>
 vkg (xhh.2.2.1, (xhh.2.2.2.1, (xhh.2.2.2.2.1, (xhh.2.2.2.2.2.1, (xhhh.2.2.1, (y6, (xhh.2.2.2.2.2.2.1, xhh.2.2.2.2.2.2.2.1))))))) (fun y7 =>
 bif (!y7) then
 vl5 (x.2.1, (x.2.2.1, (x.2.2.2.1, (x.2.2.2.2.1, (x.2.2.2.2.2.1, (x.2.2.2.2.2.2.1, (x.2.2.2.2.2.2.2.1, xh.1))))))) (fun y8 =>
 k (.inr (false, x.2.1, x.2.2.1, x.2.2.2.1, x.2.2.2.2.1, x.2.2.2.2.2.1, x.2.2.2.2.2.2.1, x.2.2.2.2.2.2.2.1, xh.1, xh.2.1, xh.2.2.1, xh.2.2.2.1, y8.1, y8.2.1, y8.2.2.1, y8.2.2.2.1, y8.2.2.2.2.1, y8.2.2.2.2.2.1, xhh.2.2.1, xhh.2.2.2.1, xhh.2.2.2.2.1, xhh.2.2.2.2.2.1, xhh.2.2.2.2.2.2.1, xhh.2.2.2.2.2.2.2.1, y8.2.2.2.2.2.2.1, y8.2.2.2.2.2.2.2, xhhh.2.2.1, y6)))
 else
 k (.inl (true, x.2.1, x.2.2.1, x.2.2.2.1, x.2.2.2.2.1, x.2.2.2.2.2.1, x.2.2.2.2.2.2.1, x.2.2.2.2.2.2.2.1, xh.1, xh.2.1, xh.2.2.1, xh.2.2.2.1, xhh.2.2.1, xhh.2.2.2.1, xhh.2.2.2.2.1, xhh.2.2.2.2.2.1, xhh.2.2.2.2.2.2.1, xhh.2.2.2.2.2.2.2.1, xhh.2.2.1, xhh.2.2.2.1, xhh.2.2.2.2.1, xhh.2.2.2.2.2.1, xhh.2.2.2.2.2.2.1, xhh.2.2.2.2.2.2.2.1, xhhh.2.2.1, y6))))
instance n04n_jp5000004 (x : q12T) : ParC (vce x) := by unfold vce; (try dsimp only); infer_instance
def vxa (a0 : dTxn) (a1 : vaa) (k : q22T → Option Res) : Option Res :=
 vl5 a0 (fun y1 =>
 vkg a0 (fun y2 =>
 bif (!y2) then
 k (y1.1, y1.2.1, y1.2.2.1, y1.2.2.2.1, y1.2.2.2.2.1, y1.2.2.2.2.2.1, false, y1.2.2.2.2.2.2.1, y1.2.2.2.2.2.2.2)
 else
 bif (a0.2.1 != (1 : Int)) then
 k (y1.1, y1.2.1, y1.2.2.1, y1.2.2.2.1, y1.2.2.2.2.1, y1.2.2.2.2.2.1, false, y1.2.2.2.2.2.2.1, y1.2.2.2.2.2.2.2)
 else
 vl0 a1 (fun y3 =>
 bif (!y3) then
 k (y1.1, y1.2.1, y1.2.2.1, y1.2.2.2.1, y1.2.2.2.2.1, y1.2.2.2.2.2.1, false, y1.2.2.2.2.2.2.1, y1.2.2.2.2.2.2.2)
 else
 vce (false, a0.1, a0.2.1, a0.2.2.1, a0.2.2.2.1, a0.2.2.2.2.1, a0.2.2.2.2.2.1, a0.2.2.2.2.2.2.1, a0.2.2.2.2.2.2.2, a1.1, a1.2.1, a1.2.2, 0, 0, 0, 0, false, (⟨#[]⟩ : ByteArray), y1.1, y1.2.1, y1.2.2.1, y1.2.2.2.1, y1.2.2.2.2.1, y1.2.2.2.2.2.1, ([] : List vab), ([] : List vaa), y1.2.2.2.2.2.2.1, y1.2.2.2.2.2.2.2) (Sum.elim (fun z4 =>
 let z4h := z4.2.2.2.2.2.2.2.2
 let z4hh := z4h.2.2.2.2.2.2.2.2
 let z4hhh := z4hh.2.2.2.2.2.2.2.2
 k (z4h.2.2.2.2.1, z4h.2.2.2.2.2.1, z4h.2.2.2.2.2.2.1, z4h.2.2.2.2.2.2.2.1, z4hh.1, z4hh.2.1, z4.1, z4hhh.1, z4hhh.2)) (fun z5 =>
 let z5h := z5.2.2.2.2.2.2.2.2
 let z5hh := z5h.2.2.2.2.2.2.2.2
 let z5hhh := z5hh.2.2.2.2.2.2.2.2
 k (z5h.2.2.2.2.1, z5h.2.2.2.2.2.1, z5h.2.2.2.2.2.2.1, z5h.2.2.2.2.2.2.2.1, z5hh.1, z5hh.2.1, z5.1, z5hhh.1, z5hhh.2.1))))))
def vkh := shut vxa
theorem v0h : vkh = vxa := val _
instance n04n_p (a0 : dTxn) (a1 : vaa) : ParC (vkh a0 a1) := by rw [v0h]; unfold vxa; (try dsimp only); infer_instance
def vw8 (a0 : vab) (a1 : vab) (k : Bool → Option Res) : Option Res :=
 bif (!(vay a0.1 a1.1)) then
 k false
 else
 bif (!(vay a0.2 a1.2)) then
 k false
 else
 k true
def vqd := shut vw8
theorem v0j : vqd = vw8 := val _
instance n10n_p (a0 : vab) (a1 : vab) : ParC (vqd a0 a1) := by rw [v0j]; unfold vw8; (try dsimp only); infer_instance
def vig (x : q0T) (k : q0T ⊕ (q0T ⊕ q0T) → Option Res) : Option Res :=
 bif (decide (x.2.2.2 < (x.1.length : Int))) then
 if 0 ≤ x.2.2.2 ∧ x.2.2.2 < (x.1.length : Int) then
 if 0 ≤ x.2.2.2 ∧ x.2.2.2 < (x.2.1.length : Int) then
 vqd (rd (Ty.zero tRange) x.1 x.2.2.2) (rd (Ty.zero tRange) x.2.1 x.2.2.2) (fun y3 =>
 bif (!y3) then
 k (.inr (.inl (x.1, x.2.1, false, x.2.2.2)))
 else
 k (.inl (x.1, x.2.1, x.2.2.1, (IntKind.wrap .i64 (x.2.2.2 + 1)))))
 else none
 else none
 else
 k (.inr (.inr (x.1, x.2.1, x.2.2.1, x.2.2.2)))
instance n11n_bp0 (x : q0T) : ParC (vig x) := by unfold vig; (try dsimp only); infer_instance
def vx6 (a0 : (List vab)) (a1 : (List vab)) (k : Bool → Option Res) : Option Res :=
 bif ((a0.length : Int) != (a1.length : Int)) then
 k false
 else
 vai vig Fuel (a0, a1, false, 0) (Sum.elim (fun z1 =>
 k z1.2.2.1) (fun _ =>
 k true))
def vq4 := shut vx6
theorem v1y : vq4 = vx6 := val _
instance n11n_p (a0 : (List vab)) (a1 : (List vab)) : ParC (vq4 a0 a1) := by rw [v1y]; unfold vx6; (try dsimp only); infer_instance
def vw7 (a0 : vaa) (a1 : vaa) (k : Bool → Option Res) : Option Res :=
 bif (!(vay a0.1 a1.1)) then
 k false
 else
 bif (!(vay a0.2.1 a1.2.1)) then
 k false
 else
 bif (!(a0.2.2 == a1.2.2)) then
 k false
 else
 k true
def vq9 := shut vw7
theorem v1w : vq9 = vw7 := val _
instance n13n_p (a0 : vaa) (a1 : vaa) : ParC (vq9 a0 a1) := by rw [v1w]; unfold vw7; (try dsimp only); infer_instance
def vhh (x : q3T) (k : q3T ⊕ (q3T ⊕ q3T) → Option Res) : Option Res :=
 bif (decide (x.2.2.2 < (x.1.length : Int))) then
 if 0 ≤ x.2.2.2 ∧ x.2.2.2 < (x.1.length : Int) then
 if 0 ≤ x.2.2.2 ∧ x.2.2.2 < (x.2.1.length : Int) then
 vq9 (rd (Ty.zero tWrite) x.1 x.2.2.2) (rd (Ty.zero tWrite) x.2.1 x.2.2.2) (fun y3 =>
 bif (!y3) then
 k (.inr (.inl (x.1, x.2.1, false, x.2.2.2)))
 else
 k (.inl (x.1, x.2.1, x.2.2.1, (IntKind.wrap .i64 (x.2.2.2 + 1)))))
 else none
 else none
 else
 k (.inr (.inr (x.1, x.2.1, x.2.2.1, x.2.2.2)))
instance n14n_bp0 (x : q3T) : ParC (vhh x) := by unfold vhh; (try dsimp only); infer_instance
def vx0 (a0 : (List vaa)) (a1 : (List vaa)) (k : Bool → Option Res) : Option Res :=
 bif ((a0.length : Int) != (a1.length : Int)) then
 k false
 else
 vai vhh Fuel (a0, a1, false, 0) (Sum.elim (fun z1 =>
 k z1.2.2.1) (fun _ =>
 k true))
def vp4 := shut vx0
theorem v1r : vp4 = vx0 := val _
instance n14n_p (a0 : (List vaa)) (a1 : (List vaa)) : ParC (vp4 a0 a1) := by rw [v1r]; unfold vx0; (try dsimp only); infer_instance
def vyr (a0 : dTxn) (a1 : dTxn) (k : Bool → Option Res) : Option Res :=
 bif (a0.1 != a1.1) then
 k false
 else
 bif (a0.2.1 != a1.2.1) then
 k false
 else
 bif (a0.2.2.1 != a1.2.2.1) then
 k false
 else
 bif (a0.2.2.2.1 != a1.2.2.2.1) then
 k false
 else
 vq4 a0.2.2.2.2.1 a1.2.2.2.2.1 (fun y1 =>
 bif (!y1) then
 k false
 else
 vp4 a0.2.2.2.2.2.1 a1.2.2.2.2.2.1 (fun y2 =>
 bif (!y2) then
 k false
 else
 bif (!(a0.2.2.2.2.2.2.1 == a1.2.2.2.2.2.2.1)) then
 k false
 else
 bif (!(vay a0.2.2.2.2.2.2.2 a1.2.2.2.2.2.2.2)) then
 k false
 else
 k true))
def vfw := shut vyr
theorem v0b : vfw = vyr := val _
instance n12n_p (a0 : dTxn) (a1 : dTxn) : ParC (vfw a0 a1) := by rw [v0b]; unfold vyr; (try dsimp only); infer_instance
def vj8 (x : (Int × ByteArray)) (k : (Int × ByteArray) ⊕ (Int × ByteArray) → Option Res) : Option Res :=
 bif (decide (x.1 > 0)) then
 if (vjl [(IntKind.wrap .u8 (IntKind.wrap .i64 ((48 : Int) + (x.1.tmod (10 : Int)))))]).size + x.2.size ≤ 1099511627776 then
 k (.inl ((IntKind.wrap .i64 (x.1.tdiv (10 : Int))), ((vjl [(IntKind.wrap .u8 (IntKind.wrap .i64 ((48 : Int) + (x.1.tmod (10 : Int)))))]) ++ x.2)))
 else none
 else
 k (.inr (x.1, x.2))
instance n19n_bp0 (x : (Int × ByteArray)) : ParC (vj8 x) := by unfold vj8; (try dsimp only); infer_instance
def vxf (a0 : Int) (k : ByteArray → Option Res) : Option Res :=
 bif (decide (a0 ≤ 0)) then
 k (⟨#[109, 48]⟩ : ByteArray)
 else
 vai vj8 Fuel (a0, (⟨#[]⟩ : ByteArray)) (fun z1 =>
 if (⟨#[109]⟩ : ByteArray).size + z1.2.size ≤ 1099511627776 then
 k ((⟨#[109]⟩ : ByteArray) ++ z1.2)
 else none)
def vdb := shut vxf
theorem v3c : vdb = vxf := val _
instance n19n_p (a0 : Int) : ParC (vdb a0) := by rw [v3c]; unfold vxf; (try dsimp only); infer_instance
def vjj (x : (Int × Int × (List vab))) (k : (Int × Int × (List vab)) ⊕ (Int × Int × (List vab)) → Option Res) : Option Res :=
 bif (decide (x.2.1 < (x.2.2.length : Int))) then
 vdb x.1 (fun y2 =>
 if 0 ≤ x.2.1 ∧ x.2.1 < (x.2.2.length : Int) then
 vdb (IntKind.wrap .i64 (x.1 + 1)) (fun y3 =>
 if 0 ≤ x.2.1 ∧ x.2.1 < ((x.2.2.set x.2.1.toNat (y2, (x.2.2.getD x.2.1.toNat (Ty.zero tRange)).2)).length : Int) then
 k (.inl ((IntKind.wrap .i64 ((IntKind.wrap .i64 (x.1 + 1)) + 1)), (IntKind.wrap .i64 (x.2.1 + 1)), ((x.2.2.set x.2.1.toNat (y2, (x.2.2.getD x.2.1.toNat (Ty.zero tRange)).2)).set x.2.1.toNat (((x.2.2.set x.2.1.toNat (y2, (x.2.2.getD x.2.1.toNat (Ty.zero tRange)).2)).getD x.2.1.toNat (Ty.zero tRange)).1, y3))))
 else none)
 else none)
 else
 k (.inr (x.1, x.2.1, x.2.2))
instance n18n_bp0 (x : (Int × Int × (List vab))) : ParC (vjj x) := by unfold vjj; (try dsimp only); infer_instance
def vx3 (a0 : Int) (a1 : (List vab)) (k : (Int × (List vab)) → Option Res) : Option Res :=
 vai vjj Fuel (a0, 0, a1) (fun z1 =>
 k (z1.1, z1.2.2))
def vty := shut vx3
theorem v1k : vty = vx3 := val _
instance n18n_p (a0 : Int) (a1 : (List vab)) : ParC (vty a0 a1) := by rw [v1k]; unfold vx3; (try dsimp only); infer_instance
def vjy (x : (Int × Int × (List vaa))) (k : (Int × Int × (List vaa)) ⊕ (Int × Int × (List vaa)) → Option Res) : Option Res :=
 let t0 := (x.2.2.getD x.2.1.toNat (Ty.zero tWrite))
 bif (decide (x.2.1 < (x.2.2.length : Int))) then
 vdb x.1 (fun y2 =>
 if 0 ≤ x.2.1 ∧ x.2.1 < (x.2.2.length : Int) then
 vdb (IntKind.wrap .i64 (x.1 + 1)) (fun y3 =>
 if 0 ≤ x.2.1 ∧ x.2.1 < ((x.2.2.set x.2.1.toNat (y2, t0.2)).length : Int) then
 if 0 ≤ x.2.1 ∧ x.2.1 < (((x.2.2.set x.2.1.toNat (y2, t0.2)).set x.2.1.toNat (((x.2.2.set x.2.1.toNat (y2, t0.2)).getD x.2.1.toNat (Ty.zero tWrite)).1, (y3, ((x.2.2.set x.2.1.toNat (y2, t0.2)).getD x.2.1.toNat (Ty.zero tWrite)).2.2))).length : Int) then
 k (.inl ((IntKind.wrap .i64 ((IntKind.wrap .i64 ((IntKind.wrap .i64 (x.1 + 1)) + 1)) + 1)), (IntKind.wrap .i64 (x.2.1 + 1)), (((x.2.2.set x.2.1.toNat (y2, t0.2)).set x.2.1.toNat (((x.2.2.set x.2.1.toNat (y2, t0.2)).getD x.2.1.toNat (Ty.zero tWrite)).1, (y3, ((x.2.2.set x.2.1.toNat (y2, t0.2)).getD x.2.1.toNat (Ty.zero tWrite)).2.2))).set x.2.1.toNat ((((x.2.2.set x.2.1.toNat (y2, t0.2)).set x.2.1.toNat (((x.2.2.set x.2.1.toNat (y2, t0.2)).getD x.2.1.toNat (Ty.zero tWrite)).1, (y3, ((x.2.2.set x.2.1.toNat (y2, t0.2)).getD x.2.1.toNat (Ty.zero tWrite)).2.2))).getD x.2.1.toNat (Ty.zero tWrite)).1, ((((x.2.2.set x.2.1.toNat (y2, t0.2)).set x.2.1.toNat (((x.2.2.set x.2.1.toNat (y2, t0.2)).getD x.2.1.toNat (Ty.zero tWrite)).1, (y3, ((x.2.2.set x.2.1.toNat (y2, t0.2)).getD x.2.1.toNat (Ty.zero tWrite)).2.2))).getD x.2.1.toNat (Ty.zero tWrite)).2.1, (((IntKind.wrap .i64 ((IntKind.wrap .i64 (x.1 + 1)) + 1)).tmod (3 : Int)) == (0 : Int)))))))
 else none
 else none)
 else none)
 else
 k (.inr (x.1, x.2.1, x.2.2))
instance n21n_bp0 (x : (Int × Int × (List vaa))) : ParC (vjy x) := by unfold vjy; (try dsimp only); infer_instance
def vw0 (a0 : Int) (a1 : (List vaa)) (k : (Int × (List vaa)) → Option Res) : Option Res :=
 vai vjy Fuel (a0, 0, a1) (fun z1 =>
 k (z1.1, z1.2.2))
def vu3 := shut vw0
theorem v03 : vu3 = vw0 := val _
instance n21n_p (a0 : Int) (a1 : (List vaa)) : ParC (vu3 a0 a1) := by rw [v03]; unfold vw0; (try dsimp only); infer_instance
def vw2 (a0 : Int) (a1 : Int) (a2 : Int) (a3 : Int) (a4 : Bool) (a5 : ByteArray) (a6 : Int) (a7 : (List vab)) (a8 : (List vaa)) (k : q19T → Option Res) : Option Res :=
 vty a6 a7 (fun y1 =>
 vu3 y1.1 a8 (fun y2 =>
 k (y2.1, y1.2, y2.2)))
def vl6 := shut vw2
theorem v3h : vl6 = vw2 := val _
instance n20n_p (a0 : Int) (a1 : Int) (a2 : Int) (a3 : Int) (a4 : Bool) (a5 : ByteArray) (a6 : Int) (a7 : (List vab)) (a8 : (List vaa)) : ParC (vl6 a0 a1 a2 a3 a4 a5 a6 a7 a8) := by rw [v3h]; unfold vw2; (try dsimp only); infer_instance
def vhy (x : q2T) (k : q2T ⊕ (q2T ⊕ q2T) → Option Res) : Option Res :=
 bif (decide (x.2.2.2 < (x.1.length : Int))) then
 if 0 ≤ x.2.2.2 ∧ x.2.2.2 < (x.1.length : Int) then
 vdb x.2.1 (fun y3 =>
 bif (!(vay ((rd (Ty.zero tRange) x.1 x.2.2.2).1) y3)) then
 k (.inr (.inl (x.1, x.2.1, (-1 : Int), x.2.2.2)))
 else
 if 0 ≤ x.2.2.2 ∧ x.2.2.2 < (x.1.length : Int) then
 vdb (IntKind.wrap .i64 (x.2.1 + 1)) (fun y4 =>
 bif (!(vay ((rd (Ty.zero tRange) x.1 x.2.2.2).2) y4)) then
 k (.inr (.inl (x.1, (IntKind.wrap .i64 (x.2.1 + 1)), (-1 : Int), x.2.2.2)))
 else
 k (.inl (x.1, (IntKind.wrap .i64 ((IntKind.wrap .i64 (x.2.1 + 1)) + 1)), x.2.2.1, (IntKind.wrap .i64 (x.2.2.2 + 1)))))
 else none)
 else none
 else
 k (.inr (.inr (x.1, x.2.1, x.2.2.1, x.2.2.2)))
instance n15n_bp0 (x : q2T) : ParC (vhy x) := by unfold vhy; (try dsimp only); infer_instance
def vxw (a0 : (List vab)) (a1 : Int) (k : Int → Option Res) : Option Res :=
 vai vhy Fuel (a0, a1, 0, 0) (Sum.elim (fun z1 =>
 k z1.2.2.1) (fun z2 =>
 k z2.2.1))
def vqn := shut vxw
theorem v0v : vqn = vxw := val _
instance n15n_p (a0 : (List vab)) (a1 : Int) : ParC (vqn a0 a1) := by rw [v0v]; unfold vxw; (try dsimp only); infer_instance
def vhl (x : q7T) (k : q7T ⊕ (q7T ⊕ q7T) → Option Res) : Option Res :=
 let t0 := (IntKind.wrap .i64 (x.2.1 + (1 : Int)))
 bif (decide (x.2.2.2 < (x.1.length : Int))) then
 if 0 ≤ x.2.2.2 ∧ x.2.2.2 < (x.1.length : Int) then
 vdb x.2.1 (fun y3 =>
 bif (!(vay ((rd (Ty.zero tWrite) x.1 x.2.2.2).1) y3)) then
 k (.inr (.inl (x.1, x.2.1, (-1 : Int), x.2.2.2)))
 else
 if 0 ≤ x.2.2.2 ∧ x.2.2.2 < (x.1.length : Int) then
 vdb t0 (fun y4 =>
 bif (!(vay ((rd (Ty.zero tWrite) x.1 x.2.2.2).2.1) y4)) then
 k (.inr (.inl (x.1, t0, (-1 : Int), x.2.2.2)))
 else
 if 0 ≤ x.2.2.2 ∧ x.2.2.2 < (x.1.length : Int) then
 bif (!((rd (Ty.zero tWrite) x.1 x.2.2.2).2.2 == (((IntKind.wrap .i64 (t0 + 1)).tmod (3 : Int)) == (0 : Int)))) then
 k (.inr (.inl (x.1, (IntKind.wrap .i64 (t0 + 1)), (-1 : Int), x.2.2.2)))
 else
 k (.inl (x.1, (IntKind.wrap .i64 ((IntKind.wrap .i64 (t0 + 1)) + 1)), x.2.2.1, (IntKind.wrap .i64 (x.2.2.2 + 1))))
 else none)
 else none)
 else none
 else
 k (.inr (.inr (x.1, x.2.1, x.2.2.1, x.2.2.2)))
instance n17n_bp0 (x : q7T) : ParC (vhl x) := by unfold vhl; (try dsimp only); infer_instance
def vx5 (a0 : (List vaa)) (a1 : Int) (k : Int → Option Res) : Option Res :=
 vai vhl Fuel (a0, a1, 0, 0) (Sum.elim (fun z1 =>
 k z1.2.2.1) (fun z2 =>
 k z2.2.1))
def vp6 := shut vx5
theorem v16 : vp6 = vx5 := val _
instance n17n_p (a0 : (List vaa)) (a1 : Int) : ParC (vp6 a0 a1) := by rw [v16]; unfold vx5; (try dsimp only); infer_instance
def vx4 (a0 : dTxn) (a1 : Int) (k : Int → Option Res) : Option Res :=
 vqn a0.2.2.2.2.1 a1 (fun y1 =>
 bif (decide (y1 < 0)) then
 k (-1 : Int)
 else
 vp6 a0.2.2.2.2.2.1 y1 (fun y2 =>
 bif (decide (y2 < 0)) then
 k (-1 : Int)
 else
 k y2))
def vma := shut vx4
theorem v1v : vma = vx4 := val _
instance n16n_p (a0 : dTxn) (a1 : Int) : ParC (vma a0 a1) := by rw [v1v]; unfold vx4; (try dsimp only); infer_instance
def vcm (x : q18T) (k : q18T → Option Res) : Option Res :=
 let xh := x.2.2.2.2.2.2.2.2
 vma (x.2.2.1, (x.2.2.2.1, (x.2.2.2.2.1, (x.2.2.2.2.2.1, (xh.1, (xh.2, (x.2.2.2.2.2.2.1, x.2.2.2.2.2.2.2.1))))))) (1 : Int) (fun y26 =>
 bif (decide (y26 < 0)) then
 k (false, x.2.1, x.2.2.1, x.2.2.2.1, x.2.2.2.2.1, x.2.2.2.2.2.1, x.2.2.2.2.2.2.1, x.2.2.2.2.2.2.2.1, xh.1, xh.2)
 else
 bif (y26 != x.2.1) then
 k (false, x.2.1, x.2.2.1, x.2.2.2.1, x.2.2.2.2.1, x.2.2.2.2.2.1, x.2.2.2.2.2.2.1, x.2.2.2.2.2.2.2.1, xh.1, xh.2)
 else
 k (true, x.2.1, x.2.2.1, x.2.2.2.1, x.2.2.2.2.1, x.2.2.2.2.2.1, x.2.2.2.2.2.2.1, x.2.2.2.2.2.2.2.1, xh.1, xh.2))
instance n09n_jp5000030 (x : q18T) : ParC (vcm x) := by unfold vcm; (try dsimp only); infer_instance
def vch (x : q11T) (k : (q11T ⊕ q16T) → Option Res) : Option Res :=
 let xh := x.2.2.2.2.2.2.2.2
 let xhh := xh.2.2.2.2.2.2.2.2
 let xhhh := xhh.2.2.2.2.2.2.2.2
 vl6 xhh.2.2.2.1 xhh.2.2.2.2.1 xhh.2.2.2.2.2.1 xhh.2.2.2.2.2.2.1 xhh.2.2.2.2.2.2.2.1 xhhh.1 (1 : Int) xhhh.2.2.2.1 xhhh.2.2.2.2 (fun y19 =>
 vma (xhh.2.2.2.1, (xhh.2.2.2.2.1, (xhh.2.2.2.2.2.1, (xhh.2.2.2.2.2.2.1, (y19.2.1, (y19.2.2, (xhh.2.2.2.2.2.2.2.1, xhhh.1))))))) (1 : Int) (fun y20 =>
 bif (decide (y20 < 0)) then
 k (.inl (false, x.2.1, x.2.2.1, x.2.2.2.1, x.2.2.2.2.1, x.2.2.2.2.2.1, x.2.2.2.2.2.2.1, x.2.2.2.2.2.2.2.1, xh.1, xh.2.1, xh.2.2.1, xh.2.2.2.1, xh.2.2.2.2.1, xh.2.2.2.2.2.1, xh.2.2.2.2.2.2.1, xh.2.2.2.2.2.2.2.1, xhh.1, xhh.2.1, xhh.2.2.1, xhh.2.2.2.1, xhh.2.2.2.2.1, xhh.2.2.2.2.2.1, xhh.2.2.2.2.2.2.1, xhh.2.2.2.2.2.2.2.1, xhhh.1, xhhh.2.1, xhhh.2.2.1, y19.2.1, y19.2.2))
 else
 bif (y20 != y19.1) then
 k (.inl (false, x.2.1, x.2.2.1, x.2.2.2.1, x.2.2.2.2.1, x.2.2.2.2.2.1, x.2.2.2.2.2.2.1, x.2.2.2.2.2.2.2.1, xh.1, xh.2.1, xh.2.2.1, xh.2.2.2.1, xh.2.2.2.2.1, xh.2.2.2.2.2.1, xh.2.2.2.2.2.2.1, xh.2.2.2.2.2.2.2.1, xhh.1, xhh.2.1, xhh.2.2.1, xhh.2.2.2.1, xhh.2.2.2.2.1, xhh.2.2.2.2.2.1, xhh.2.2.2.2.2.2.1, xhh.2.2.2.2.2.2.2.1, xhhh.1, xhhh.2.1, xhhh.2.2.1, y19.2.1, y19.2.2))
 else
 vgc (x.2.2.1, (x.2.2.2.1, (x.2.2.2.2.1, (x.2.2.2.2.2.1, (x.2.2.2.2.2.2.1, (x.2.2.2.2.2.2.2.1, (xh.1, xh.2.1))))))) (fun y21 =>
 vg2 (xh.2.2.1, (xh.2.2.2.1, xh.2.2.2.2.1)) (fun y22 =>
 vkh (y21.1, (y21.2.1, (y21.2.2.1, (y21.2.2.2.1, (y21.2.2.2.2.2.2.1, (y21.2.2.2.2.2.2.2, (y21.2.2.2.2.1, y21.2.2.2.2.2.1))))))) y22 (fun y23 =>
 vfw (y23.1, (y23.2.1, (y23.2.2.1, (y23.2.2.2.1, (y23.2.2.2.2.2.2.2.1, (y23.2.2.2.2.2.2.2.2, (y23.2.2.2.2.1, y23.2.2.2.2.2.1))))))) (xh.2.2.2.2.2.1, (xh.2.2.2.2.2.2.1, (xh.2.2.2.2.2.2.2.1, (xhh.1, (xhhh.2.1, (xhhh.2.2.1, (xhh.2.1, xhh.2.2.1))))))) (fun y24 =>
 bif (!y24) then
 k (.inl (false, x.2.1, x.2.2.1, x.2.2.2.1, x.2.2.2.2.1, x.2.2.2.2.2.1, x.2.2.2.2.2.2.1, x.2.2.2.2.2.2.2.1, xh.1, xh.2.1, xh.2.2.1, xh.2.2.2.1, xh.2.2.2.2.1, xh.2.2.2.2.2.1, xh.2.2.2.2.2.2.1, xh.2.2.2.2.2.2.2.1, xhh.1, xhh.2.1, xhh.2.2.1, xhh.2.2.2.1, xhh.2.2.2.2.1, xhh.2.2.2.2.2.1, xhh.2.2.2.2.2.2.1, xhh.2.2.2.2.2.2.2.1, xhhh.1, xhhh.2.1, xhhh.2.2.1, y19.2.1, y19.2.2))
 else
 bif (!(y23.2.2.2.2.2.2.1 == x.2.1)) then
 k (.inl (false, x.2.1, x.2.2.1, x.2.2.2.1, x.2.2.2.2.1, x.2.2.2.2.2.1, x.2.2.2.2.2.2.1, x.2.2.2.2.2.2.2.1, xh.1, xh.2.1, xh.2.2.1, xh.2.2.2.1, xh.2.2.2.2.1, xh.2.2.2.2.2.1, xh.2.2.2.2.2.2.1, xh.2.2.2.2.2.2.2.1, xhh.1, xhh.2.1, xhh.2.2.1, xhh.2.2.2.1, xhh.2.2.2.2.1, xhh.2.2.2.2.2.1, xhh.2.2.2.2.2.2.1, xhh.2.2.2.2.2.2.2.1, xhhh.1, xhhh.2.1, xhhh.2.2.1, y19.2.1, y19.2.2))
 else
 vcm (x.1, y19.1, xhh.2.2.2.1, xhh.2.2.2.2.1, xhh.2.2.2.2.2.1, xhh.2.2.2.2.2.2.1, xhh.2.2.2.2.2.2.2.1, xhhh.1, y19.2.1, y19.2.2) (fun z25 =>
 let z25h := z25.2.2.2.2.2.2.2.2
 k (.inr (z25.1, z25.2.2.1, z25.2.2.2.1, z25.2.2.2.2.1, z25.2.2.2.2.2.1, z25.2.2.2.2.2.2.1, z25.2.2.2.2.2.2.2.1, z25h.1, z25h.2)))))))))
instance n09n_jp5000019 (x : q11T) : ParC (vch x) := by unfold vch; (try dsimp only); exact ⟨((n20n_p _ _ _ _ _ _ _ _ _).p.bind fun y19 => ((n16n_p _ _).p.bind fun y20 => (vak (vah _) (vak (vah _) ((n29n_p _).p.bind fun y21 => ((n30n_p _).p.bind fun y22 => ((n04n_p _ _).p.bind fun y23 => ((n12n_p _ _).p.bind fun y24 => (vak (vah _) (vak (vah _) ((n09n_jp5000030 _).p.bind fun z25 => (vah _))))))))))))⟩
def vcf (x : q10T) (k : (q10T ⊕ (q11T ⊕ q16T)) → Option Res) : Option Res :=
 let xh := x.2.2.2.2.2.2.2.2
 let xhh := xh.2.2.2.2.2.2.2.2
 let xhhh := xhh.2.2.2.2.2.2.2.2
 let xhhhh := xhhh.2.2.2.2.2.2.2.2
 vgc (x.2.2.2.1, (x.2.2.2.2.1, (x.2.2.2.2.2.1, (x.2.2.2.2.2.2.1, (x.2.2.2.2.2.2.2.1, (xh.1, (xh.2.1, xh.2.2.1))))))) (fun y13 =>
 vfw (xhh.2.2.2.2.1, (xhh.2.2.2.2.2.1, (xhh.2.2.2.2.2.2.1, (xhh.2.2.2.2.2.2.2.1, (xhhhh.2.2.1, (xhhhh.2.2.2.1, (xhhh.1, xhhh.2.1))))))) (y13.1, (y13.2.1, (y13.2.2.1, (y13.2.2.2.1, (y13.2.2.2.2.2.2.1, (y13.2.2.2.2.2.2.2, (y13.2.2.2.2.1, y13.2.2.2.2.2.1))))))) (fun y14 =>
 bif (!y14) then
 k (.inl (false, x.2.1, x.2.2.1, x.2.2.2.1, x.2.2.2.2.1, x.2.2.2.2.2.1, x.2.2.2.2.2.2.1, x.2.2.2.2.2.2.2.1, xh.1, xh.2.1, xh.2.2.1, xh.2.2.2.1, xh.2.2.2.2.1, xh.2.2.2.2.2.1, xh.2.2.2.2.2.2.1, xh.2.2.2.2.2.2.2.1, xhh.1, xhh.2.1, xhh.2.2.1, xhh.2.2.2.1, xhh.2.2.2.2.1, xhh.2.2.2.2.2.1, xhh.2.2.2.2.2.2.1, xhh.2.2.2.2.2.2.2.1, xhhh.1, xhhh.2.1, xhhh.2.2.1, xhhh.2.2.2.1, xhhh.2.2.2.2.1, xhhh.2.2.2.2.2.1, xhhh.2.2.2.2.2.2.1, xhhh.2.2.2.2.2.2.2.1, xhhhh.1, xhhhh.2.1, xhhhh.2.2.1, xhhhh.2.2.2.1, xhhhh.2.2.2.2.1, xhhhh.2.2.2.2.2))
 else
 vl6 xhh.2.2.2.2.1 xhh.2.2.2.2.2.1 xhh.2.2.2.2.2.2.1 xhh.2.2.2.2.2.2.2.1 xhhh.1 xhhh.2.1 (1 : Int) xhhhh.2.2.1 xhhhh.2.2.2.1 (fun y15 =>
 bif (decide (y15.1 < 0)) then
 k (.inl (false, x.2.1, x.2.2.1, x.2.2.2.1, x.2.2.2.2.1, x.2.2.2.2.2.1, x.2.2.2.2.2.2.1, x.2.2.2.2.2.2.2.1, xh.1, xh.2.1, xh.2.2.1, xh.2.2.2.1, xh.2.2.2.2.1, xh.2.2.2.2.2.1, xh.2.2.2.2.2.2.1, xh.2.2.2.2.2.2.2.1, xhh.1, xhh.2.1, xhh.2.2.1, xhh.2.2.2.1, xhh.2.2.2.2.1, xhh.2.2.2.2.2.1, xhh.2.2.2.2.2.2.1, xhh.2.2.2.2.2.2.2.1, xhhh.1, xhhh.2.1, xhhh.2.2.1, xhhh.2.2.2.1, xhhh.2.2.2.2.1, xhhh.2.2.2.2.2.1, xhhh.2.2.2.2.2.2.1, xhhh.2.2.2.2.2.2.2.1, xhhhh.1, xhhhh.2.1, y15.2.1, y15.2.2, xhhhh.2.2.2.2.1, xhhhh.2.2.2.2.2))
 else
 vfw (xhhh.2.2.1, (xhhh.2.2.2.1, (xhhh.2.2.2.2.1, (xhhh.2.2.2.2.2.1, (xhhhh.2.2.2.2.1, (xhhhh.2.2.2.2.2, (xhhh.2.2.2.2.2.2.1, xhhh.2.2.2.2.2.2.2.1))))))) (xh.2.2.2.2.2.2.1, (xh.2.2.2.2.2.2.2.1, (xhh.1, (xhh.2.1, (xhhhh.1, (xhhhh.2.1, (xhh.2.2.1, xhh.2.2.2.1))))))) (fun y16 =>
 bif (!y16) then
 k (.inl (false, x.2.1, x.2.2.1, x.2.2.2.1, x.2.2.2.2.1, x.2.2.2.2.2.1, x.2.2.2.2.2.2.1, x.2.2.2.2.2.2.2.1, xh.1, xh.2.1, xh.2.2.1, xh.2.2.2.1, xh.2.2.2.2.1, xh.2.2.2.2.2.1, xh.2.2.2.2.2.2.1, xh.2.2.2.2.2.2.2.1, xhh.1, xhh.2.1, xhh.2.2.1, xhh.2.2.2.1, xhh.2.2.2.2.1, xhh.2.2.2.2.2.1, xhh.2.2.2.2.2.2.1, xhh.2.2.2.2.2.2.2.1, xhhh.1, xhhh.2.1, xhhh.2.2.1, xhhh.2.2.2.1, xhhh.2.2.2.2.1, xhhh.2.2.2.2.2.1, xhhh.2.2.2.2.2.2.1, xhhh.2.2.2.2.2.2.2.1, xhhhh.1, xhhhh.2.1, y15.2.1, y15.2.2, xhhhh.2.2.2.2.1, xhhhh.2.2.2.2.2))
 else
 bif (!(x.2.2.1 == x.2.1)) then
 k (.inl (false, x.2.1, x.2.2.1, x.2.2.2.1, x.2.2.2.2.1, x.2.2.2.2.2.1, x.2.2.2.2.2.2.1, x.2.2.2.2.2.2.2.1, xh.1, xh.2.1, xh.2.2.1, xh.2.2.2.1, xh.2.2.2.2.1, xh.2.2.2.2.2.1, xh.2.2.2.2.2.2.1, xh.2.2.2.2.2.2.2.1, xhh.1, xhh.2.1, xhh.2.2.1, xhh.2.2.2.1, xhh.2.2.2.2.1, xhh.2.2.2.2.2.1, xhh.2.2.2.2.2.2.1, xhh.2.2.2.2.2.2.2.1, xhhh.1, xhhh.2.1, xhhh.2.2.1, xhhh.2.2.2.1, xhhh.2.2.2.2.1, xhhh.2.2.2.2.2.1, xhhh.2.2.2.2.2.2.1, xhhh.2.2.2.2.2.2.2.1, xhhhh.1, xhhhh.2.1, y15.2.1, y15.2.2, xhhhh.2.2.2.2.1, xhhhh.2.2.2.2.2))
 else
 vch (x.1, x.2.1, x.2.2.2.1, x.2.2.2.2.1, x.2.2.2.2.2.1, x.2.2.2.2.2.2.1, x.2.2.2.2.2.2.2.1, xh.1, xh.2.1, xh.2.2.1, xh.2.2.2.1, xh.2.2.2.2.1, xh.2.2.2.2.2.1, xh.2.2.2.2.2.2.1, xh.2.2.2.2.2.2.2.1, xhh.1, xhh.2.1, xhh.2.2.1, xhh.2.2.2.1, xhhh.2.2.1, xhhh.2.2.2.1, xhhh.2.2.2.2.1, xhhh.2.2.2.2.2.1, xhhh.2.2.2.2.2.2.1, xhhh.2.2.2.2.2.2.2.1, xhhhh.1, xhhhh.2.1, xhhhh.2.2.2.2.1, xhhhh.2.2.2.2.2) (Sum.elim (fun z17 =>
 let z17h := z17.2.2.2.2.2.2.2.2
 let z17hh := z17h.2.2.2.2.2.2.2.2
 let z17hhh := z17hh.2.2.2.2.2.2.2.2
 k (.inr (.inl (z17.1, z17.2.1, z17.2.2.1, z17.2.2.2.1, z17.2.2.2.2.1, z17.2.2.2.2.2.1, z17.2.2.2.2.2.2.1, z17.2.2.2.2.2.2.2.1, z17h.1, z17h.2.1, z17h.2.2.1, z17h.2.2.2.1, z17h.2.2.2.2.1, z17h.2.2.2.2.2.1, z17h.2.2.2.2.2.2.1, z17h.2.2.2.2.2.2.2.1, z17hh.1, z17hh.2.1, z17hh.2.2.1, z17hh.2.2.2.1, z17hh.2.2.2.2.1, z17hh.2.2.2.2.2.1, z17hh.2.2.2.2.2.2.1, z17hh.2.2.2.2.2.2.2.1, z17hhh.1, z17hhh.2.1, z17hhh.2.2.1, z17hhh.2.2.2.1, z17hhh.2.2.2.2)))) (fun z18 =>
 k (.inr (.inr (z18.1, z18.2.1, z18.2.2.1, z18.2.2.2.1, z18.2.2.2.2.1, z18.2.2.2.2.2.1, z18.2.2.2.2.2.2.1, z18.2.2.2.2.2.2.2.1, z18.2.2.2.2.2.2.2.2)))))))))
instance n09n_jp5000013 (x : q10T) : ParC (vcf x) := by unfold vcf; (try dsimp only); exact ⟨((n29n_p _).p.bind fun y13 => ((n12n_p _ _).p.bind fun y14 => (vak (vah _) ((n20n_p _ _ _ _ _ _ _ _ _).p.bind fun y15 => (vak (vah _) ((n12n_p _ _).p.bind fun y16 => (vak (vah _) (vak (vah _) ((n09n_jp5000019 _).p.bind2 (fun z17 => (vah _)) (fun z18 => (vah _)))))))))))⟩
def vyl (a0 : dTxn) (a1 : vaa) (k : Bool → Option Res) : Option Res :=
 vro a0 (1048576 : Int) (fun y1 =>
 bif (decide (y1 < 0)) then
 k true
 else
 vl3 a1 y1 (fun y2 =>
 bif (decide (y2 < 0)) then
 k true
 else
 vgc a0 (fun y3 =>
 vg2 a1 (fun y4 =>
 vot (y3.1, (y3.2.1, (y3.2.2.1, (y3.2.2.2.1, (y3.2.2.2.2.2.2.1, (y3.2.2.2.2.2.2.2, (y3.2.2.2.2.1, y3.2.2.2.2.2.1))))))) y4 (fun y5 =>
 let y5h := y5.2.2.2.2.2.2.2.2
 vgc a0 (fun y6 =>
 vg2 a1 (fun y7 =>
 vkh (y6.1, (y6.2.1, (y6.2.2.1, (y6.2.2.2.1, (y6.2.2.2.2.2.2.1, (y6.2.2.2.2.2.2.2, (y6.2.2.2.2.1, y6.2.2.2.2.2.1))))))) y7 (fun y8 =>
 let y8h := y8.2.2.2.2.2.2.2.2
 vfw (y8.1, (y8.2.1, (y8.2.2.1, (y8.2.2.2.1, (y8.2.2.2.2.2.2.2.1, (y8h, (y8.2.2.2.2.1, y8.2.2.2.2.2.1))))))) (y5.1, (y5.2.1, (y5.2.2.1, (y5.2.2.2.1, (y5.2.2.2.2.2.2.2.1, (y5h, (y5.2.2.2.2.1, y5.2.2.2.2.2.1))))))) (fun y9 =>
 bif (!y9) then
 k false
 else
 bif (!(y8.2.2.2.2.2.2.1 == y5.2.2.2.2.2.2.1)) then
 k false
 else
 vcf (false, y5.2.2.2.2.2.2.1, y8.2.2.2.2.2.2.1, a0.1, a0.2.1, a0.2.2.1, a0.2.2.2.1, a0.2.2.2.2.1, a0.2.2.2.2.2.1, a0.2.2.2.2.2.2.1, a0.2.2.2.2.2.2.2, a1.1, a1.2.1, a1.2.2, y5.1, y5.2.1, y5.2.2.1, y5.2.2.2.1, y5.2.2.2.2.1, y5.2.2.2.2.2.1, y6.1, y6.2.1, y6.2.2.1, y6.2.2.2.1, y6.2.2.2.2.1, y6.2.2.2.2.2.1, y8.1, y8.2.1, y8.2.2.1, y8.2.2.2.1, y8.2.2.2.2.1, y8.2.2.2.2.2.1, y5.2.2.2.2.2.2.2.1, y5h, y6.2.2.2.2.2.2.1, y6.2.2.2.2.2.2.2, y8.2.2.2.2.2.2.2.1, y8h) (Sum.elim (fun z10 =>
 k z10.1) (Sum.elim (fun z11 =>
 k z11.1) (fun z12 =>
 k z12.1))))))))))))
def vt9 := shut vyl
theorem v0i : vt9 = vyl := val _
instance n09n_p (a0 : dTxn) (a1 : vaa) : ParC (vt9 a0 a1) := by rw [v0i]; unfold vyl; (try dsimp only); exact ⟨((n24n_p _ _).p.bind fun y1 => (vak (vah _) ((n25n_p _ _).p.bind fun y2 => (vak (vah _) ((n29n_p _).p.bind fun y3 => ((n30n_p _).p.bind fun y4 => ((n37n_p _ _).p.bind fun y5 => ((n29n_p _).p.bind fun y6 => ((n30n_p _).p.bind fun y7 => ((n04n_p _ _).p.bind fun y8 => ((n12n_p _ _).p.bind fun y9 => (vak (vah _) (vak (vah _) ((n09n_jp5000013 _).p.bind2 (fun z10 => (vah _)) (fun q => vxk (fun z11 => (vah _)) (fun z12 => (vah _)) q)))))))))))))))⟩
def v6s (args : List AV) (st : St) (k : K1) : Option Res :=
 vam [.agg [.str, .str], .i] [] args st (fun p q => vqq (p.1.1, p.1.2.1) p.2.1 (fun (y : Int) => k (.i y) []))
 (none)
def v60 (args : List AV) (st : St) (k : K1) : Option Res :=
 vam [.lst tRange, .i] [] args st (fun p q => vtv p.1 p.2.1 (fun (y : Int) => k (.i y) []))
 (none)
def v6u (args : List AV) (st : St) (k : K1) : Option Res :=
 vam [.agg [.str, .str, .bool], .i] [] args st (fun p q => vl3 (p.1.1, (p.1.2.1, p.1.2.2.1)) p.2.1 (fun (y : Int) => k (.i y) []))
 (none)
def v52 (args : List AV) (st : St) (k : K1) : Option Res :=
 vam [.lst tWrite, .i] [] args st (fun p q => vvi p.1 p.2.1 (fun (y : Int) => k (.i y) []))
 (none)
def v50 (args : List AV) (st : St) (k : K1) : Option Res :=
 vam [.agg [.i, .i, .i, .i, .lst tRange, .lst tWrite, .bool, .str], .i] [] args st (fun p q => vro (p.1.1, (p.1.2.1, (p.1.2.2.1, (p.1.2.2.2.1, (p.1.2.2.2.2.1, (p.1.2.2.2.2.2.1, (p.1.2.2.2.2.2.2.1, p.1.2.2.2.2.2.2.2.1))))))) p.2.1 (fun (y : Int) => k (.i y) []))
 (none)
def v5y (args : List AV) (st : St) (k : K1) : Option Res :=
 vam [.agg [.str, .str]] [] args st (fun p q => vrp (p.1.1, p.1.2.1) (fun (y : (ByteArray × ByteArray)) => k (.agg [.str y.1, .str y.2]) []))
 (none)
def v6j (args : List AV) (st : St) (k : K1) : Option Res :=
 vam [.lst tRange] [] args st (fun p q => vq6 p.1 (fun (y : (List vab)) => k (.own 0) [.arr tRange y]))
 (none)
def v6m (args : List AV) (st : St) (k : K1) : Option Res :=
 vam [.agg [.str, .str, .bool]] [] args st (fun p q => vg2 (p.1.1, (p.1.2.1, p.1.2.2.1)) (fun (y : (ByteArray × ByteArray × Bool)) => k (.agg [.str y.1, .str y.2.1, .bool y.2.2]) []))
 (none)
def v6v (args : List AV) (st : St) (k : K1) : Option Res :=
 vam [.lst tWrite] [] args st (fun p q => vp1 p.1 (fun (y : (List vaa)) => k (.own 0) [.arr tWrite y]))
 (none)
def v6y (args : List AV) (st : St) (k : K1) : Option Res :=
 vam [.agg [.i, .i, .i, .i, .lst tRange, .lst tWrite, .bool, .str]] [] args st (fun p q => vgc (p.1.1, (p.1.2.1, (p.1.2.2.1, (p.1.2.2.2.1, (p.1.2.2.2.2.1, (p.1.2.2.2.2.2.1, (p.1.2.2.2.2.2.2.1, p.1.2.2.2.2.2.2.2.1))))))) (fun (y : q21T) => k (.agg [.i y.1, .i y.2.1, .i y.2.2.1, .i y.2.2.2.1, .own 0, .own 1, .bool y.2.2.2.2.1, .str y.2.2.2.2.2.1]) [.arr tRange y.2.2.2.2.2.2.1, .arr tWrite y.2.2.2.2.2.2.2]))
 (none)
def v56 (args : List AV) (st : St) (k : K1) : Option Res :=
 vam [.agg [.i, .i, .i, .i, .lst tRange, .lst tWrite, .bool, .str]] [] args st (fun p q => vlw (p.1.1, (p.1.2.1, (p.1.2.2.1, (p.1.2.2.2.1, (p.1.2.2.2.2.1, (p.1.2.2.2.2.2.1, (p.1.2.2.2.2.2.2.1, p.1.2.2.2.2.2.2.2.1))))))) (fun (y : q21T) => k (.agg [.i y.1, .i y.2.1, .i y.2.2.1, .i y.2.2.2.1, .own 0, .own 1, .bool y.2.2.2.2.1, .str y.2.2.2.2.2.1]) [.arr tRange y.2.2.2.2.2.2.1, .arr tWrite y.2.2.2.2.2.2.2]))
 (none)
def v6e (args : List AV) (st : St) (k : K1) : Option Res :=
 vam [.i, .i, .i] [] args st (fun p q => vex p.1 p.2.1 p.2.2.1 (fun (y : Bool) => k (.bool y) []))
 (none)
def v54 (args : List AV) (st : St) (k : K1) : Option Res :=
 vam [.str] [] args st (fun p q => vjg p.1 (fun (y : Bool) => k (.bool y) []))
 (none)
def v6b (args : List AV) (st : St) (k : K1) : Option Res :=
 vam [.agg [.str, .str, .bool]] [] args st (fun p q => vl4 (p.1.1, (p.1.2.1, p.1.2.2.1)) (fun (y : Bool) => k (.bool y) []))
 (none)
def v6o (args : List AV) (st : St) (k : K1) : Option Res :=
 vam [.lst tWrite] [] args st (fun p q => vk8 p.1 (fun (y : Bool) => k (.bool y) []))
 (none)
def v6g (args : List AV) (st : St) (k : K1) : Option Res :=
 vam [.agg [.str, .str]] [] args st (fun p q => vqw (p.1.1, p.1.2.1) (fun (y : Bool) => k (.bool y) []))
 (none)
def v6n (args : List AV) (st : St) (k : K1) : Option Res :=
 vam [.agg [.i, .i, .i, .i, .lst tRange, .lst tWrite, .bool, .str]] [] args st (fun p q => vm8 (p.1.1, (p.1.2.1, (p.1.2.2.1, (p.1.2.2.2.1, (p.1.2.2.2.2.1, (p.1.2.2.2.2.2.1, (p.1.2.2.2.2.2.2.1, p.1.2.2.2.2.2.2.2.1))))))) (fun (y : Bool) => k (.bool y) []))
 (none)
def v6c (args : List AV) (st : St) (k : K1) : Option Res :=
 vam [.lst tWrite, .agg [.str, .str, .bool]] [] args st (fun p q => vn9 p.1 (p.2.1.1, (p.2.1.2.1, p.2.1.2.2.1)) (fun (y : (List vaa)) => k (.own 0) [.arr tWrite y]))
 (none)
def v59 (args : List AV) (st : St) (k : K1) : Option Res :=
 vam [.agg [.i, .i, .i, .i, .lst tRange, .lst tWrite, .bool, .str], .agg [.str, .str, .bool]] [] args st (fun p q => vot (p.1.1, (p.1.2.1, (p.1.2.2.1, (p.1.2.2.2.1, (p.1.2.2.2.2.1, (p.1.2.2.2.2.2.1, (p.1.2.2.2.2.2.2.1, p.1.2.2.2.2.2.2.2.1))))))) (p.2.1.1, (p.2.1.2.1, p.2.1.2.2.1)) (fun (y : q22T) => k (.tup [.agg [.i y.1, .i y.2.1, .i y.2.2.1, .i y.2.2.2.1, .own 0, .own 1, .bool y.2.2.2.2.1, .str y.2.2.2.2.2.1], .bool y.2.2.2.2.2.2.1]) [.arr tRange y.2.2.2.2.2.2.2.1, .arr tWrite y.2.2.2.2.2.2.2.2]))
 (none)
def v55 (args : List AV) (st : St) (k : K1) : Option Res :=
 vam [.agg [.i, .i, .i, .i, .lst tRange, .lst tWrite, .bool, .str]] [] args st (fun p q => vl5 (p.1.1, (p.1.2.1, (p.1.2.2.1, (p.1.2.2.2.1, (p.1.2.2.2.2.1, (p.1.2.2.2.2.2.1, (p.1.2.2.2.2.2.2.1, p.1.2.2.2.2.2.2.2.1))))))) (fun (y : q21T) => k (.agg [.i y.1, .i y.2.1, .i y.2.2.1, .i y.2.2.2.1, .own 0, .own 1, .bool y.2.2.2.2.1, .str y.2.2.2.2.2.1]) [.arr tRange y.2.2.2.2.2.2.1, .arr tWrite y.2.2.2.2.2.2.2]))
 (none)
def v6a (args : List AV) (st : St) (k : K1) : Option Res :=
 vam [.i, .i, .i] [] args st (fun p q => vez p.1 p.2.1 p.2.2.1 (fun (y : Bool) => k (.bool y) []))
 (none)
def v6l (args : List AV) (st : St) (k : K1) : Option Res :=
 vam [.str] [] args st (fun p q => vi7 p.1 (fun (y : Bool) => k (.bool y) []))
 (none)
def v6z (args : List AV) (st : St) (k : K1) : Option Res :=
 vam [.agg [.str, .str]] [] args st (fun p q => vpz (p.1.1, p.1.2.1) (fun (y : Bool) => k (.bool y) []))
 (none)
def v58 (args : List AV) (st : St) (k : K1) : Option Res :=
 vam [.agg [.str, .str, .bool]] [] args st (fun p q => vl0 (p.1.1, (p.1.2.1, p.1.2.2.1)) (fun (y : Bool) => k (.bool y) []))
 (none)
def v6d (args : List AV) (st : St) (k : K1) : Option Res :=
 vam [.lst tWrite] [] args st (fun p q => vm5 p.1 (fun (y : Bool) => k (.bool y) []))
 (none)
def v6f (args : List AV) (st : St) (k : K1) : Option Res :=
 vam [.agg [.i, .i, .i, .i, .lst tRange, .lst tWrite, .bool, .str]] [] args st (fun p q => vkg (p.1.1, (p.1.2.1, (p.1.2.2.1, (p.1.2.2.2.1, (p.1.2.2.2.2.1, (p.1.2.2.2.2.2.1, (p.1.2.2.2.2.2.2.1, p.1.2.2.2.2.2.2.2.1))))))) (fun (y : Bool) => k (.bool y) []))
 (none)
def vb9 (args : List AV) (st : St) (k : K1) : Option Res :=
 vam [.own 0, .i, .own 1] [.arr tWrite, .arr tWrite] args st (fun p q => vum p.2.1 q.1 q.2.1 (fun (y : ((List vaa) × (List vaa))) => k (.own 2) [.gone, .arr tWrite y.1, .arr tWrite y.2]))
 (none)
def v6w (args : List AV) (st : St) (k : K1) : Option Res :=
 vam [.lst tWrite, .agg [.str, .str, .bool]] [] args st (fun p q => vqj p.1 (p.2.1.1, (p.2.1.2.1, p.2.1.2.2.1)) (fun (y : (List vaa)) => k (.own 0) [.arr tWrite y]))
 (none)
def v6x (args : List AV) (st : St) (k : K1) : Option Res :=
 vam [.agg [.i, .i, .i, .i, .lst tRange, .lst tWrite, .bool, .str], .agg [.str, .str, .bool]] [] args st (fun p q => vkh (p.1.1, (p.1.2.1, (p.1.2.2.1, (p.1.2.2.2.1, (p.1.2.2.2.2.1, (p.1.2.2.2.2.2.1, (p.1.2.2.2.2.2.2.1, p.1.2.2.2.2.2.2.2.1))))))) (p.2.1.1, (p.2.1.2.1, p.2.1.2.2.1)) (fun (y : q22T) => k (.tup [.agg [.i y.1, .i y.2.1, .i y.2.2.1, .i y.2.2.2.1, .own 0, .own 1, .bool y.2.2.2.2.1, .str y.2.2.2.2.2.1], .bool y.2.2.2.2.2.2.1]) [.arr tRange y.2.2.2.2.2.2.2.1, .arr tWrite y.2.2.2.2.2.2.2.2]))
 (none)
def v6t (args : List AV) (st : St) (k : K1) : Option Res :=
 vam [.agg [.str, .str], .agg [.str, .str]] [] args st (fun p q => vqd (p.1.1, p.1.2.1) (p.2.1.1, p.2.1.2.1) (fun (y : Bool) => k (.bool y) []))
 (none)
def v62 (args : List AV) (st : St) (k : K1) : Option Res :=
 vam [.lst tRange, .lst tRange] [] args st (fun p q => vq4 p.1 p.2.1 (fun (y : Bool) => k (.bool y) []))
 (none)
def v5w (args : List AV) (st : St) (k : K1) : Option Res :=
 vam [.agg [.str, .str, .bool], .agg [.str, .str, .bool]] [] args st (fun p q => vq9 (p.1.1, (p.1.2.1, p.1.2.2.1)) (p.2.1.1, (p.2.1.2.1, p.2.1.2.2.1)) (fun (y : Bool) => k (.bool y) []))
 (none)
def v63 (args : List AV) (st : St) (k : K1) : Option Res :=
 vam [.lst tWrite, .lst tWrite] [] args st (fun p q => vp4 p.1 p.2.1 (fun (y : Bool) => k (.bool y) []))
 (none)
def v6i (args : List AV) (st : St) (k : K1) : Option Res :=
 vam [.agg [.i, .i, .i, .i, .lst tRange, .lst tWrite, .bool, .str], .agg [.i, .i, .i, .i, .lst tRange, .lst tWrite, .bool, .str]] [] args st (fun p q => vfw (p.1.1, (p.1.2.1, (p.1.2.2.1, (p.1.2.2.2.1, (p.1.2.2.2.2.1, (p.1.2.2.2.2.2.1, (p.1.2.2.2.2.2.2.1, p.1.2.2.2.2.2.2.2.1))))))) (p.2.1.1, (p.2.1.2.1, (p.2.1.2.2.1, (p.2.1.2.2.2.1, (p.2.1.2.2.2.2.1, (p.2.1.2.2.2.2.2.1, (p.2.1.2.2.2.2.2.2.1, p.2.1.2.2.2.2.2.2.2.1))))))) (fun (y : Bool) => k (.bool y) []))
 (none)
def v64 (args : List AV) (st : St) (k : K1) : Option Res :=
 vam [.i] [] args st (fun p q => vdb p.1 (fun (y : ByteArray) => k (.str y) []))
 (none)
def vf3 (args : List AV) (st : St) (k : K1) : Option Res :=
 vam [.own 0, .i] [.arr tRange] args st (fun p q => vty p.2.1 q.1 (fun (y : (Int × (List vab))) => k (.i y.1) [.arr tRange y.2]))
 (none)
def vf7 (args : List AV) (st : St) (k : K1) : Option Res :=
 vam [.own 0, .i] [.arr tWrite] args st (fun p q => vu3 p.2.1 q.1 (fun (y : (Int × (List vaa))) => k (.i y.1) [.arr tWrite y.2]))
 (none)
def vja (args : List AV) (st : St) (k : K1) : Option Res :=
 vam [.agg [.i, .i, .i, .i, .own 0, .own 1, .bool, .str], .i] [.arr tRange, .arr tWrite] args st (fun p q => vl6 p.1.1 p.1.2.1 p.1.2.2.1 p.1.2.2.2.1 p.1.2.2.2.2.2.2.1 p.1.2.2.2.2.2.2.2.1 p.2.1 q.1 q.2.1 (fun (y : q19T) => k (.i y.1) [.arr tRange y.2.1, .arr tWrite y.2.2]))
 (none)
def v57 (args : List AV) (st : St) (k : K1) : Option Res :=
 vam [.lst tRange, .i] [] args st (fun p q => vqn p.1 p.2.1 (fun (y : Int) => k (.i y) []))
 (none)
def v6k (args : List AV) (st : St) (k : K1) : Option Res :=
 vam [.lst tWrite, .i] [] args st (fun p q => vp6 p.1 p.2.1 (fun (y : Int) => k (.i y) []))
 (none)
def v51 (args : List AV) (st : St) (k : K1) : Option Res :=
 vam [.agg [.i, .i, .i, .i, .lst tRange, .lst tWrite, .bool, .str], .i] [] args st (fun p q => vma (p.1.1, (p.1.2.1, (p.1.2.2.1, (p.1.2.2.2.1, (p.1.2.2.2.2.1, (p.1.2.2.2.2.2.1, (p.1.2.2.2.2.2.2.1, p.1.2.2.2.2.2.2.2.1))))))) p.2.1 (fun (y : Int) => k (.i y) []))
 (none)
def v1u (args : List AV) (st : St) (k : K1) : Option Res :=
 vam [.agg [.i, .i, .i, .i, .lst tRange, .lst tWrite, .bool, .str], .agg [.str, .str, .bool]] [] args st (fun p q => vt9 (p.1.1, (p.1.2.1, (p.1.2.2.1, (p.1.2.2.2.1, (p.1.2.2.2.2.1, (p.1.2.2.2.2.2.1, (p.1.2.2.2.2.2.2.1, p.1.2.2.2.2.2.2.2.1))))))) (p.2.1.1, (p.2.1.2.1, p.2.1.2.2.1)) (fun (y : Bool) => k (.bool y) []))
 (none)
end
end Go.VE
