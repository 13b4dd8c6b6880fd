/- Native programs of the functions, written by gen.py. -/
import Derived.Test.YteolgjmeigifbaaT0
import Derived.Test.YteolgjmeigifbaaU29
namespace Go.VE
noncomputable section
set_option linter.unusedVariables false
set_option linter.unusedSimpArgs false
set_option maxRecDepth 100000
abbrev q0T : Type := ((List vag) × (List vag) × Bool × Int)
abbrev q1T : Type := ((List vag) × Int × (List vag))
abbrev q2T : Type := ((List vag) × Int × Int × Int)
abbrev q3T : Type := ((List dTxn) × (List dTxn) × Bool × Int)
abbrev q4T : Type := ((List dTxn) × Int × (List dTxn))
abbrev q5T : Type := ((List dTxn) × Int × Int × (List dTxn))
abbrev q6T : Type := ((List dTxn) × Int × Int × Int × Int)
abbrev q7T : Type := ((List dTxn) × Int × Int × Int)
abbrev q8T : Type := ((List vac) × (List vac) × Bool × Int)
abbrev q9T : Type := ((List vac) × Int × (List vac))
abbrev q10T : Type := ((List vac) × Int × Int × Int)
abbrev q11T : Type := ((List vaa) × (List vaa) × Bool × Int)
abbrev q12T : Type := ((List vaa) × Bool × (List vaa) × Int × Int)
abbrev q13T : Type := ((List vaa) × Int × (List vaa))
abbrev q14T : Type := ((List vaa) × Int × ByteArray × ByteArray × Bool × (List vaa))
abbrev q15T : Type := ((List vaa) × Int × Int × Int)
abbrev q16T : Type := (Bool × (List vag) × Int × Int × Int × Int × Int × Int × (List vag) × (List vaa) × Bool × ByteArray)
abbrev q17T : Type := (Bool × (List vac) × (List dTxn) × (List dTxn) × (List dTxn))
abbrev q18T : Type := (Bool × Int × Int × (List vac) × (List dTxn) × (List dTxn) × (List dTxn))
abbrev q19T : Type := (Bool × Int × Int × Int × (List vac) × (List dTxn) × (List dTxn) × (List dTxn))
abbrev q20T : Type := (Bool × Int × Int × Int × Int × (List vag) × (List vaa) × Bool × ByteArray × ByteArray × ByteArray × Bool × Int × Int × Int × Int × Bool × ByteArray × Int × Int × Int × Int × Bool × ByteArray × (List vag) × (List vaa) × (List vag) × (List vaa))
abbrev q21T : Type := (Bool × Int × Int × Int × Int × (List vag) × (List vaa) × Bool × ByteArray × ByteArray × ByteArray × Bool × Int × Int × Int × Int × Bool × ByteArray × Int × Int × Int × Int × Bool × ByteArray × (List vag) × (List vaa))
abbrev q22T : Type := (Bool × Int × Int × Int × Int × (List vag) × (List vaa) × Bool × ByteArray)
abbrev q23T : Type := (Bool × Int × Int × Int × Int × Bool × ByteArray × (List vag) × (List vaa) × (List vaa))
abbrev q24T : Type := (Bool × Int × Int × Int × Int × Int × (List vag) × (List vaa) × Bool × ByteArray)
abbrev q25T : Type := (ByteArray × ByteArray × Bool × Int)
abbrev q26T : Type := (Int × (List vac) × (List dTxn) × (List dTxn) × (List dTxn))
abbrev q27T : Type := (Int × (List vac) × (List dTxn) × (List dTxn))
abbrev q28T : Type := (Int × Bool × Int × (List vac) × (List dTxn) × (List dTxn) × Int × Int × (List dTxn) × ByteArray × ByteArray × Bool × Int × Int × Int × Int × (List vac) × (List dTxn) × (List dTxn) × (List dTxn) × (List vac) × (List dTxn) × (List dTxn) × (List dTxn))
abbrev q29T : Type := (Int × Bool × Int × Int × (List vac) × (List dTxn) × (List dTxn) × Int × Int × (List dTxn) × ByteArray × ByteArray × Bool × Int × Int × Int × Int × Int × Int × (List vac) × (List dTxn) × (List dTxn) × (List dTxn) × (List vac) × (List dTxn) × (List dTxn) × (List dTxn) × (List vac) × (List dTxn) × (List dTxn) × (List dTxn))
abbrev q30T : Type := (Int × ByteArray × ByteArray × Bool × (List vaa))
abbrev q31T : Type := (Int × Int × (List vac) × (List dTxn) × (List dTxn) × (List dTxn))
abbrev q32T : Type := (Int × Int × (List vac) × (List dTxn) × (List dTxn))
abbrev q33T : Type := (Int × Int × Int × (List vac) × (List dTxn) × (List dTxn) × (List dTxn))
abbrev q34T : Type := (Int × Int × Int × (List vac) × (List dTxn) × (List dTxn) × Int × Int × (List dTxn))
abbrev q35T : Type := (Int × Int × Int × Int × Bool × ByteArray × (List vag) × (List vaa))
abbrev q36T : Type := (Int × Int × Int × Int × Bool × ByteArray × Bool × (List vag) × (List vaa))
def v4m (a0 : vac) (a1 : Int) (k : Int → Option Res) : Option Res :=
 bif (decide ((IntKind.wrap .i64 (a1 - (a0.1.size : Int))) < (0 : Int))) then
 k (-1 : Int)
 else
 bif (decide ((IntKind.wrap .i64 ((IntKind.wrap .i64 (a1 - (a0.1.size : Int))) - (a0.2.1.size : Int))) < (0 : Int))) then
 k (-1 : Int)
 else
 k (IntKind.wrap .i64 ((IntKind.wrap .i64 (a1 - (a0.1.size : Int))) - (a0.2.1.size : Int)))
def vv1 := shut v4m
theorem v81 : vv1 = v4m := vah _
instance n45n_p (a0 : vac) (a1 : Int) : ParC (vv1 a0 a1) := by rw [v81]; unfold v4m; (try dsimp only); infer_instance
def vjk (x : q10T) (k : q10T ⊕ (q10T ⊕ q10T) → Option Res) : Option Res :=
 bif (decide (x.2.2.2 < (x.1.length : Int))) then
 if 0 ≤ x.2.2.2 ∧ x.2.2.2 < (x.1.length : Int) then
 vv1 (rd (Ty.zero tVersion) x.1 x.2.2.2) x.2.1 (fun y3 =>
 bif (decide (y3 < 0)) then
 k (.inr (.inl (x.1, y3, (-1 : Int), x.2.2.2)))
 else
 k (.inl (x.1, y3, x.2.2.1, (IntKind.wrap .i64 (x.2.2.2 + 1)))))
 else none
 else
 k (.inr (.inr (x.1, x.2.1, x.2.2.1, x.2.2.2)))
instance n46n_bp0 (x : q10T) : ParC (vjk x) := by unfold vjk; (try dsimp only); infer_instance
def v5c (a0 : (List vac)) (a1 : Int) (k : Int → Option Res) : Option Res :=
 bif (decide ((IntKind.wrap .i64 (a1 - (a0.length : Int))) < (0 : Int))) then
 k (-1 : Int)
 else
 vae vjk Fuel (a0, (IntKind.wrap .i64 (a1 - (a0.length : Int))), 0, 0) (Sum.elim (fun z1 =>
 k z1.2.2.1) (fun z2 =>
 k z2.2.1))
def vyk := shut v5c
theorem v7p : vyk = v5c := vah _
instance n46n_p (a0 : (List vac)) (a1 : Int) : ParC (vyk a0 a1) := by rw [v7p]; unfold v5c; (try dsimp only); infer_instance
def v4k (a0 : vag) (a1 : Int) (k : Int → Option Res) : Option Res :=
 bif (decide ((IntKind.wrap .i64 (a1 - (a0.1.size : Int))) < (0 : Int))) then
 k (-1 : Int)
 else
 bif (decide ((IntKind.wrap .i64 ((IntKind.wrap .i64 (a1 - (a0.1.size : Int))) - (a0.2.size : Int))) < (0 : Int))) then
 k (-1 : Int)
 else
 k (IntKind.wrap .i64 ((IntKind.wrap .i64 (a1 - (a0.1.size : Int))) - (a0.2.size : Int)))
def vtm := shut v4k
theorem v8j : vtm = v4k := vah _
instance n41n_p (a0 : vag) (a1 : Int) : ParC (vtm a0 a1) := by rw [v8j]; unfold v4k; (try dsimp only); infer_instance
def vjm (x : q2T) (k : q2T ⊕ (q2T ⊕ q2T) → Option Res) : Option Res :=
 bif (decide (x.2.2.2 < (x.1.length : Int))) then
 if 0 ≤ x.2.2.2 ∧ x.2.2.2 < (x.1.length : Int) then
 vtm (rd (Ty.zero tRange) x.1 x.2.2.2) x.2.1 (fun y3 =>
 bif (decide (y3 < 0)) then
 k (.inr (.inl (x.1, y3, (-1 : Int), x.2.2.2)))
 else
 k (.inl (x.1, y3, x.2.2.1, (IntKind.wrap .i64 (x.2.2.2 + 1)))))
 else none
 else
 k (.inr (.inr (x.1, x.2.1, x.2.2.1, x.2.2.2)))
instance n42n_bp0 (x : q2T) : ParC (vjm x) := by unfold vjm; (try dsimp only); infer_instance
def v4q (a0 : (List vag)) (a1 : Int) (k : Int → Option Res) : Option Res :=
 bif (decide ((IntKind.wrap .i64 (a1 - (a0.length : Int))) < (0 : Int))) then
 k (-1 : Int)
 else
 vae vjm Fuel (a0, (IntKind.wrap .i64 (a1 - (a0.length : Int))), 0, 0) (Sum.elim (fun z1 =>
 k z1.2.2.1) (fun z2 =>
 k z2.2.1))
def vx9 := shut v4q
theorem v7u : vx9 = v4q := vah _
instance n42n_p (a0 : (List vag)) (a1 : Int) : ParC (vx9 a0 a1) := by rw [v7u]; unfold v4q; (try dsimp only); infer_instance
def v4l (a0 : vaa) (a1 : Int) (k : Int → Option Res) : Option Res :=
 bif (decide ((IntKind.wrap .i64 (a1 - (a0.1.size : Int))) < (0 : Int))) then
 k (-1 : Int)
 else
 bif (decide ((IntKind.wrap .i64 ((IntKind.wrap .i64 (a1 - (a0.1.size : Int))) - (a0.2.1.size : Int))) < (0 : Int))) then
 k (-1 : Int)
 else
 k (IntKind.wrap .i64 ((IntKind.wrap .i64 (a1 - (a0.1.size : Int))) - (a0.2.1.size : Int)))
def vod := shut v4l
theorem v9w : vod = v4l := vah _
instance n47n_p (a0 : vaa) (a1 : Int) : ParC (vod a0 a1) := by rw [v9w]; unfold v4l; (try dsimp only); infer_instance
def vj3 (x : q15T) (k : q15T ⊕ (q15T ⊕ q15T) → Option Res) : Option Res :=
 bif (decide (x.2.2.2 < (x.1.length : Int))) then
 if 0 ≤ x.2.2.2 ∧ x.2.2.2 < (x.1.length : Int) then
 vod (rd (Ty.zero tWrite) x.1 x.2.2.2) x.2.1 (fun y3 =>
 bif (decide (y3 < 0)) then
 k (.inr (.inl (x.1, y3, (-1 : Int), x.2.2.2)))
 else
 k (.inl (x.1, y3, x.2.2.1, (IntKind.wrap .i64 (x.2.2.2 + 1)))))
 else none
 else
 k (.inr (.inr (x.1, x.2.1, x.2.2.1, x.2.2.2)))
instance n48n_bp0 (x : q15T) : ParC (vj3 x) := by unfold vj3; (try dsimp only); infer_instance
def v35 (a0 : (List vaa)) (a1 : Int) (k : Int → Option Res) : Option Res :=
 bif (decide ((IntKind.wrap .i64 (a1 - (a0.length : Int))) < (0 : Int))) then
 k (-1 : Int)
 else
 vae vj3 Fuel (a0, (IntKind.wrap .i64 (a1 - (a0.length : Int))), 0, 0) (Sum.elim (fun z1 =>
 k z1.2.2.1) (fun z2 =>
 k z2.2.1))
def vys := shut v35
theorem v9r : vys = v35 := vah _
instance n48n_p (a0 : (List vaa)) (a1 : Int) : ParC (vys a0 a1) := by rw [v9r]; unfold v35; (try dsimp only); infer_instance
def v5l (a0 : dTxn) (a1 : Int) (k : Int → Option Res) : Option Res :=
 vx9 a0.2.2.2.2.1 a1 (fun y1 =>
 bif (decide (y1 < 0)) then
 k (-1 : Int)
 else
 vys a0.2.2.2.2.2.1 y1 (fun y2 =>
 bif (decide (y2 < 0)) then
 k (-1 : Int)
 else
 bif (decide ((IntKind.wrap .i64 (y2 - (a0.2.2.2.2.2.2.2.size : Int))) < (0 : Int))) then
 k (-1 : Int)
 else
 k (IntKind.wrap .i64 (y2 - (a0.2.2.2.2.2.2.2.size : Int)))))
def vv3 := shut v5l
theorem v8m : vv3 = v5l := vah _
instance n43n_p (a0 : dTxn) (a1 : Int) : ParC (vv3 a0 a1) := by rw [v8m]; unfold v5l; (try dsimp only); infer_instance
def vkl (x : q7T) (k : q7T ⊕ (q7T ⊕ q7T) → Option Res) : Option Res :=
 bif (decide (x.2.2.2 < (x.1.length : Int))) then
 if 0 ≤ x.2.2.2 ∧ x.2.2.2 < (x.1.length : Int) then
 vv3 (rd (Ty.zero tTxn) x.1 x.2.2.2) x.2.1 (fun y3 =>
 bif (decide (y3 < 0)) then
 k (.inr (.inl (x.1, y3, (-1 : Int), x.2.2.2)))
 else
 k (.inl (x.1, y3, x.2.2.1, (IntKind.wrap .i64 (x.2.2.2 + 1)))))
 else none
 else
 k (.inr (.inr (x.1, x.2.1, x.2.2.1, x.2.2.2)))
instance n44n_bp0 (x : q7T) : ParC (vkl x) := by unfold vkl; (try dsimp only); infer_instance
def v36 (a0 : (List dTxn)) (a1 : Int) (k : Int → Option Res) : Option Res :=
 bif (decide ((IntKind.wrap .i64 (a1 - (a0.length : Int))) < (0 : Int))) then
 k (-1 : Int)
 else
 vae vkl Fuel (a0, (IntKind.wrap .i64 (a1 - (a0.length : Int))), 0, 0) (Sum.elim (fun z1 =>
 k z1.2.2.1) (fun z2 =>
 k z2.2.1))
def vrj := shut v36
theorem wac : vrj = v36 := vah _
instance n44n_p (a0 : (List dTxn)) (a1 : Int) : ParC (vrj a0 a1) := by rw [wac]; unfold v36; (try dsimp only); infer_instance
def v5e (a0 : vk6) (a1 : Int) (k : Int → Option Res) : Option Res :=
 vyk a0.1 a1 (fun y1 =>
 bif (decide (y1 < 0)) then
 k (-1 : Int)
 else
 vrj a0.2.1 y1 (fun y2 =>
 bif (decide (y2 < 0)) then
 k (-1 : Int)
 else
 vrj a0.2.2.1 y2 (fun y3 =>
 bif (decide (y3 < 0)) then
 k (-1 : Int)
 else
 k y3)))
def vz6 := shut v5e
theorem v78 : vz6 = v5e := vah _
instance n39n_p (a0 : vk6) (a1 : Int) : ParC (vz6 a0 a1) := by rw [v78]; unfold v5e; (try dsimp only); infer_instance
def v5k (a0 : va8) (a1 : Int) (k : Int → Option Res) : Option Res :=
 vz6 a0.1 a1 (fun y1 =>
 bif (decide (y1 < 0)) then
 k (-1 : Int)
 else
 vrj a0.2 y1 (fun y2 =>
 bif (decide (y2 < 0)) then
 k (-1 : Int)
 else
 k y2))
def vun := shut v5k
theorem v7v : vun = v5k := vah _
instance n40n_p (a0 : va8) (a1 : Int) : ParC (vun a0 a1) := by rw [v7v]; unfold v5k; (try dsimp only); infer_instance
def v8q (a0 : vac) (k : q25T → Option Res) : Option Res :=
 k (a0.1, a0.2.1, a0.2.2.1, a0.2.2.2)
def vux := shut v8q
theorem v9o : vux = v8q := vah _
instance n55n_p (a0 : vac) : ParC (vux a0) := by rw [v9o]; unfold v8q; (try dsimp only); infer_instance
def vj6 (x : q9T) (k : q9T ⊕ q9T → Option Res) : Option Res :=
 bif (decide (x.2.1 < (x.1.length : Int))) then
 if 0 ≤ x.2.1 ∧ x.2.1 < (x.1.length : Int) then
 vux (rd (Ty.zero tVersion) x.1 x.2.1) (fun y2 =>
 if 0 ≤ x.2.1 ∧ x.2.1 < (x.2.2.length : Int) then
 k (.inl (x.1, (IntKind.wrap .i64 (x.2.1 + 1)), (x.2.2.set x.2.1.toNat y2)))
 else none)
 else none
 else
 k (.inr (x.1, x.2.1, x.2.2))
instance n56n_bp0 (x : q9T) : ParC (vj6 x) := by unfold vj6; (try dsimp only); infer_instance
def v4j (a0 : (List vac)) (k : (List vac) → Option Res) : Option Res :=
 if 0 ≤ (a0.length : Int) ∧ (a0.length : Int) ≤ (a0.length : Int) ∧ (a0.length : Int) ≤ (VE.maxLen : Int) then
 vae vj6 Fuel (a0, 0, (List.replicate (a0.length : Int).toNat (Ty.zero tVersion))) (fun z1 =>
 k z1.2.2)
 else none
def vub := shut v4j
theorem wbi : vub = v4j := vah _
instance n56n_p (a0 : (List vac)) : ParC (vub a0) := by rw [wbi]; unfold v4j; (try dsimp only); infer_instance
def v73 (a0 : vag) (k : (ByteArray × ByteArray) → Option Res) : Option Res :=
 k (a0.1, a0.2)
def vv2 := shut v73
theorem v7o : vv2 = v73 := vah _
instance n51n_p (a0 : vag) : ParC (vv2 a0) := by rw [v7o]; unfold v73; (try dsimp only); infer_instance
def vi6 (x : q1T) (k : q1T ⊕ q1T → Option Res) : Option Res :=
 bif (decide (x.2.1 < (x.1.length : Int))) then
 if 0 ≤ x.2.1 ∧ x.2.1 < (x.1.length : Int) then
 vv2 (rd (Ty.zero tRange) x.1 x.2.1) (fun y2 =>
 if 0 ≤ x.2.1 ∧ x.2.1 < (x.2.2.length : Int) then
 k (.inl (x.1, (IntKind.wrap .i64 (x.2.1 + 1)), (x.2.2.set x.2.1.toNat y2)))
 else none)
 else none
 else
 k (.inr (x.1, x.2.1, x.2.2))
instance n52n_bp0 (x : q1T) : ParC (vi6 x) := by unfold vi6; (try dsimp only); infer_instance
def v3y (a0 : (List vag)) (k : (List vag) → Option Res) : Option Res :=
 if 0 ≤ (a0.length : Int) ∧ (a0.length : Int) ≤ (a0.length : Int) ∧ (a0.length : Int) ≤ (VE.maxLen : Int) then
 vae vi6 Fuel (a0, 0, (List.replicate (a0.length : Int).toNat (Ty.zero tRange))) (fun z1 =>
 k z1.2.2)
 else none
def vtx := shut v3y
theorem v8b : vtx = v3y := vah _
instance n52n_p (a0 : (List vag)) : ParC (vtx a0) := by rw [v8b]; unfold v3y; (try dsimp only); infer_instance
def v98 (a0 : vaa) (k : (ByteArray × ByteArray × Bool) → Option Res) : Option Res :=
 k (a0.1, a0.2.1, a0.2.2)
def vig := shut v98
theorem wbo : vig = v98 := vah _
instance n57n_p (a0 : vaa) : ParC (vig a0) := by rw [wbo]; unfold v98; (try dsimp only); infer_instance
def vjp (x : q13T) (k : q13T ⊕ q13T → Option Res) : Option Res :=
 bif (decide (x.2.1 < (x.1.length : Int))) then
 if 0 ≤ x.2.1 ∧ x.2.1 < (x.1.length : Int) then
 vig (rd (Ty.zero tWrite) x.1 x.2.1) (fun y2 =>
 if 0 ≤ x.2.1 ∧ x.2.1 < (x.2.2.length : Int) then
 k (.inl (x.1, (IntKind.wrap .i64 (x.2.1 + 1)), (x.2.2.set x.2.1.toNat y2)))
 else none)
 else none
 else
 k (.inr (x.1, x.2.1, x.2.2))
instance n58n_bp0 (x : q13T) : ParC (vjp x) := by unfold vjp; (try dsimp only); infer_instance
def v3j (a0 : (List vaa)) (k : (List vaa) → Option Res) : Option Res :=
 if 0 ≤ (a0.length : Int) ∧ (a0.length : Int) ≤ (a0.length : Int) ∧ (a0.length : Int) ≤ (VE.maxLen : Int) then
 vae vjp Fuel (a0, 0, (List.replicate (a0.length : Int).toNat (Ty.zero tWrite))) (fun z1 =>
 k z1.2.2)
 else none
def vum := shut v3j
theorem wbf : vum = v3j := vah _
instance n58n_p (a0 : (List vaa)) : ParC (vum a0) := by rw [wbf]; unfold v3j; (try dsimp only); infer_instance
def v47 (a0 : dTxn) (k : q35T → Option Res) : Option Res :=
 vtx a0.2.2.2.2.1 (fun y1 =>
 vum a0.2.2.2.2.2.1 (fun y2 =>
 k (a0.1, a0.2.1, a0.2.2.1, a0.2.2.2.1, a0.2.2.2.2.2.2.1, a0.2.2.2.2.2.2.2, y1, y2)))
def vrt := shut v47
theorem v8k : vrt = v47 := vah _
instance n53n_p (a0 : dTxn) : ParC (vrt a0) := by rw [v8k]; unfold v47; (try dsimp only); infer_instance
def vkj (x : q4T) (k : q4T ⊕ q4T → Option Res) : Option Res :=
 bif (decide (x.2.1 < (x.1.length : Int))) then
 if 0 ≤ x.2.1 ∧ x.2.1 < (x.1.length : Int) then
 vrt (rd (Ty.zero tTxn) x.1 x.2.1) (fun y2 =>
 if 0 ≤ x.2.1 ∧ x.2.1 < (x.2.2.length : Int) then
 k (.inl (x.1, (IntKind.wrap .i64 (x.2.1 + 1)), (x.2.2.set x.2.1.toNat (y2.1, (y2.2.1, (y2.2.2.1, (y2.2.2.2.1, (y2.2.2.2.2.2.2.1, (y2.2.2.2.2.2.2.2, (y2.2.2.2.2.1, y2.2.2.2.2.2.1))))))))))
 else none)
 else none
 else
 k (.inr (x.1, x.2.1, x.2.2))
instance n54n_bp0 (x : q4T) : ParC (vkj x) := by unfold vkj; (try dsimp only); infer_instance
def v2x (a0 : (List dTxn)) (k : (List dTxn) → Option Res) : Option Res :=
 if 0 ≤ (a0.length : Int) ∧ (a0.length : Int) ≤ (a0.length : Int) ∧ (a0.length : Int) ≤ (VE.maxLen : Int) then
 vae vkj Fuel (a0, 0, (List.replicate (a0.length : Int).toNat (Ty.zero tTxn))) (fun z1 =>
 k z1.2.2)
 else none
def voy := shut v2x
theorem waj : voy = v2x := vah _
instance n54n_p (a0 : (List dTxn)) : ParC (voy a0) := by rw [waj]; unfold v2x; (try dsimp only); infer_instance
def v34 (a0 : vk6) (k : q32T → Option Res) : Option Res :=
 vub a0.1 (fun y1 =>
 voy a0.2.1 (fun y2 =>
 voy a0.2.2.1 (fun y3 =>
 k (a0.2.2.2.1, a0.2.2.2.2, y1, y2, y3))))
def vt3 := shut v34
theorem wba : vt3 = v34 := vah _
instance n49n_p (a0 : vk6) : ParC (vt3 a0) := by rw [wba]; unfold v34; (try dsimp only); infer_instance
def v3p (a0 : va8) (k : q31T → Option Res) : Option Res :=
 vt3 a0.1 (fun y1 =>
 voy a0.2 (fun y2 =>
 k (y1.1, y1.2.1, y1.2.2.1, y1.2.2.2.1, y1.2.2.2.2, y2)))
def vg7 := shut v3p
theorem v86 : vg7 = v3p := vah _
instance n50n_p (a0 : va8) : ParC (vg7 a0) := by rw [v86]; unfold v3p; (try dsimp only); infer_instance
def v4g (a0 : dTxn) (k : q35T → Option Res) : Option Res :=
 if ([] : List vag).length + a0.2.2.2.2.1.length ≤ VE.maxLen then
 if ([] : List vaa).length + a0.2.2.2.2.2.1.length ≤ VE.maxLen then
 k (a0.1, a0.2.1, a0.2.2.1, a0.2.2.2.1, a0.2.2.2.2.2.2.1, a0.2.2.2.2.2.2.2, (([] : List vag) ++ a0.2.2.2.2.1), (([] : List vaa) ++ a0.2.2.2.2.2.1))
 else none
 else none
def vlb := shut v4g
theorem wa9 : vlb = v4g := vah _
instance n71n_p (a0 : dTxn) : ParC (vlb a0) := by rw [wa9]; unfold v4g; (try dsimp only); infer_instance
def vi5 (x : q4T) (k : q4T ⊕ q4T → Option Res) : Option Res :=
 bif (decide (x.2.1 < (x.1.length : Int))) then
 if 0 ≤ x.2.1 ∧ x.2.1 < (x.1.length : Int) then
 vlb (rd (Ty.zero tTxn) x.1 x.2.1) (fun y2 =>
 if x.2.2.length + [(y2.1, (y2.2.1, (y2.2.2.1, (y2.2.2.2.1, (y2.2.2.2.2.2.2.1, (y2.2.2.2.2.2.2.2, (y2.2.2.2.2.1, y2.2.2.2.2.2.1)))))))].length ≤ VE.maxLen then
 k (.inl (x.1, (IntKind.wrap .i64 (x.2.1 + 1)), (x.2.2 ++ [(y2.1, (y2.2.1, (y2.2.2.1, (y2.2.2.2.1, (y2.2.2.2.2.2.2.1, (y2.2.2.2.2.2.2.2, (y2.2.2.2.2.1, y2.2.2.2.2.2.1)))))))])))
 else none)
 else none
 else
 k (.inr (x.1, x.2.1, x.2.2))
instance n73n_bp0 (x : q4T) : ParC (vi5 x) := by unfold vi5; (try dsimp only); infer_instance
def v5g (a0 : (List dTxn)) (k : (List dTxn) → Option Res) : Option Res :=
 vae vi5 Fuel (a0, 0, ([] : List dTxn)) (fun z1 =>
 k z1.2.2)
def voq := shut v5g
theorem v79 : voq = v5g := vah _
instance n73n_p (a0 : (List dTxn)) : ParC (voq a0) := by rw [v79]; unfold v5g; (try dsimp only); infer_instance
def v3c (a0 : vk6) (k : q32T → Option Res) : Option Res :=
 if ([] : List vac).length + a0.1.length ≤ VE.maxLen then
 voq a0.2.1 (fun y1 =>
 voq a0.2.2.1 (fun y2 =>
 k (a0.2.2.2.1, a0.2.2.2.2, (([] : List vac) ++ a0.1), y1, y2)))
 else none
def v5j := shut v3c
theorem v9v : v5j = v3c := vah _
instance n72n_p (a0 : vk6) : ParC (v5j a0) := by rw [v9v]; unfold v3c; (try dsimp only); infer_instance
def v3h (a0 : va8) (k : q31T → Option Res) : Option Res :=
 v5j a0.1 (fun y1 =>
 voq a0.2 (fun y2 =>
 k (y1.1, y1.2.1, y1.2.2.1, y1.2.2.2.1, y1.2.2.2.2, y2)))
def vzq := shut v3h
theorem v71 : vzq = v3h := vah _
instance n74n_p (a0 : va8) : ParC (vzq a0) := by rw [v71]; unfold v3h; (try dsimp only); infer_instance
def vis (x : q34T) (k : q34T ⊕ (q34T ⊕ q34T) → Option Res) : Option Res :=
 let xh := x.2.2.2.2.2.2.2.2
 bif (decide (x.2.2.1 < (xh.length : Int))) then
 if 0 ≤ x.2.2.1 ∧ x.2.2.1 < (xh.length : Int) then
 bif ((rd (Ty.zero tTxn) xh x.2.2.1).1 == x.1) then
 k (.inr (.inl (x.1, x.2.2.1, x.2.2.1, x.2.2.2.1, x.2.2.2.2.1, x.2.2.2.2.2.1, x.2.2.2.2.2.2.1, x.2.2.2.2.2.2.2.1, xh)))
 else
 k (.inl (x.1, x.2.1, (IntKind.wrap .i64 (x.2.2.1 + 1)), x.2.2.2.1, x.2.2.2.2.1, x.2.2.2.2.2.1, x.2.2.2.2.2.2.1, x.2.2.2.2.2.2.2.1, xh))
 else none
 else
 k (.inr (.inr (x.1, x.2.1, x.2.2.1, x.2.2.2.1, x.2.2.2.2.1, x.2.2.2.2.2.1, x.2.2.2.2.2.2.1, x.2.2.2.2.2.2.2.1, xh)))
instance n62n_bp0 (x : q34T) : ParC (vis x) := by unfold vis; (try dsimp only); infer_instance
def v5i (a0 : va8) (a1 : Int) (k : Int → Option Res) : Option Res :=
 vae vis Fuel (a1, 0, 0, a0.1.1, a0.1.2.1, a0.1.2.2.1, a0.1.2.2.2.1, a0.1.2.2.2.2, a0.2) (Sum.elim (fun z1 =>
 k z1.2.1) (fun _ =>
 k (-1 : Int)))
def vul := shut v5i
theorem v93 : vul = v5i := vah _
instance n62n_p (a0 : va8) (a1 : Int) : ParC (vul a0 a1) := by rw [v93]; unfold v5i; (try dsimp only); infer_instance
def v5d (a0 : Int) (a1 : Int) (a2 : Int) (k : Bool → Option Res) : Option Res :=
 bif (decide (a0 ≥ a1)) then
 k (decide (a0 ≤ a2))
 else
 k false
def vfb := shut v5d
theorem wbq : vfb = v5d := vah _
instance n70n_p (a0 : Int) (a1 : Int) (a2 : Int) : ParC (vfb a0 a1 a2) := by rw [wbq]; unfold v5d; (try dsimp only); infer_instance
def vje (x : (ByteArray × Bool × Int)) (k : (ByteArray × Bool × Int) ⊕ ((ByteArray × Bool × Int) ⊕ (ByteArray × Bool × Int)) → Option Res) : Option Res :=
 bif (decide (x.2.2 < (x.1.size : Int))) then
 if 0 ≤ x.2.2 ∧ x.2.2 < (x.1.size : Int) then
 bif (decide ((bt x.1 x.2.2) < (97 : Int))) then
 k (.inr (.inl (x.1, false, x.2.2)))
 else
 if 0 ≤ x.2.2 ∧ x.2.2 < (x.1.size : Int) then
 bif (decide ((bt x.1 x.2.2) > (122 : Int))) then
 k (.inr (.inl (x.1, false, x.2.2)))
 else
 k (.inl (x.1, x.2.1, (IntKind.wrap .i64 (x.2.2 + 1))))
 else none
 else none
 else
 k (.inr (.inr (x.1, x.2.1, x.2.2)))
instance n61n_bp0 (x : (ByteArray × Bool × Int)) : ParC (vje x) := by unfold vje; (try dsimp only); infer_instance
def v5a (a0 : ByteArray) (k : Bool → Option Res) : Option Res :=
 vae vje Fuel (a0, false, 0) (Sum.elim (fun z1 =>
 k z1.2.1) (fun z2 =>
 vfb (z2.1.size : Int) (1 : Int) (3 : Int) (fun y3 =>
 k y3)))
def vlf := shut v5a
theorem wav : vlf = v5a := vah _
instance n61n_p (a0 : ByteArray) : ParC (vlf a0) := by rw [wav]; unfold v5a; (try dsimp only); infer_instance
def v4s (a0 : vaa) (k : Bool → Option Res) : Option Res :=
 vlf a0.1 (fun y1 =>
 bif y1 then
 bif (decide ((a0.2.1.size : Int) ≤ (12 : Int))) then
 bif (!a0.2.2) then
 k true
 else
 k (vas a0.2.1 (⟨#[]⟩ : ByteArray))
 else
 k false
 else
 k false)
def vnl := shut v4s
theorem wbd : vnl = v4s := vah _
instance n68n_p (a0 : vaa) : ParC (vnl a0) := by rw [wbd]; unfold v4s; (try dsimp only); infer_instance
def vjf (x : ((List vaa) × Bool × Int)) (k : ((List vaa) × Bool × Int) ⊕ (((List vaa) × Bool × Int) ⊕ ((List vaa) × Bool × Int)) → Option Res) : Option Res :=
 bif (decide (x.2.2 < (x.1.length : Int))) then
 if 0 ≤ x.2.2 ∧ x.2.2 < (x.1.length : Int) then
 vnl (rd (Ty.zero tWrite) x.1 x.2.2) (fun y3 =>
 bif (!y3) then
 k (.inr (.inl (x.1, false, x.2.2)))
 else
 bif (decide (x.2.2 > 0)) then
 if 0 ≤ (IntKind.wrap .i64 (x.2.2 - 1)) ∧ (IntKind.wrap .i64 (x.2.2 - 1)) < (x.1.length : Int) then
 if 0 ≤ x.2.2 ∧ x.2.2 < (x.1.length : Int) then
 bif (!(vaf ((rd (Ty.zero tWrite) x.1 (IntKind.wrap .i64 (x.2.2 - 1))).1) ((rd (Ty.zero tWrite) x.1 x.2.2).1))) then
 k (.inr (.inl (x.1, false, x.2.2)))
 else
 k (.inl (x.1, x.2.1, (IntKind.wrap .i64 (x.2.2 + 1))))
 else none
 else none
 else
 k (.inl (x.1, x.2.1, (IntKind.wrap .i64 (x.2.2 + 1)))))
 else none
 else
 k (.inr (.inr (x.1, x.2.1, x.2.2)))
instance n69n_bp0 (x : ((List vaa) × Bool × Int)) : ParC (vjf x) := by unfold vjf; (try dsimp only); infer_instance
def v37 (a0 : (List vaa)) (k : Bool → Option Res) : Option Res :=
 vae vjf Fuel (a0, false, 0) (Sum.elim (fun z1 =>
 k z1.2.1) (fun z2 =>
 k (decide ((z2.1.length : Int) ≤ (8 : Int)))))
def vno := shut v37
theorem v9h : vno = v37 := vah _
instance n69n_p (a0 : (List vaa)) : ParC (vno a0) := by rw [v9h]; unfold v37; (try dsimp only); infer_instance
def v2u (a0 : vag) (k : Bool → Option Res) : Option Res :=
 vlf a0.1 (fun y1 =>
 bif y1 then
 vlf a0.2 (fun y2 =>
 bif y2 then
 k ((vaf a0.1 a0.2) || (vas a0.1 a0.2))
 else
 k false)
 else
 k false)
def vu7 := shut v2u
theorem v8l : vu7 = v2u := vah _
instance n65n_p (a0 : vag) : ParC (vu7 a0) := by rw [v8l]; unfold v2u; (try dsimp only); infer_instance
def vbo (x : q22T) (k : q22T → Option Res) : Option Res :=
 let xh := x.2.2.2.2.2.2.2.2
 bif (x.2.2.1 != (1 : Int)) then
 k (true, x.2.1, x.2.2.1, x.2.2.2.1, x.2.2.2.2.1, x.2.2.2.2.2.1, x.2.2.2.2.2.2.1, x.2.2.2.2.2.2.2.1, xh)
 else
 k ((!x.2.2.2.2.2.2.2.1), x.2.1, x.2.2.1, x.2.2.2.1, x.2.2.2.2.1, x.2.2.2.2.2.1, x.2.2.2.2.2.2.1, x.2.2.2.2.2.2.2.1, xh)
instance n66n_jp5000012 (x : q22T) : ParC (vbo x) := by unfold vbo; (try dsimp only); infer_instance
def vbn (x : q22T) (k : q22T → Option Res) : Option Res :=
 let xh := x.2.2.2.2.2.2.2.2
 let t0 := (x.1, x.2.1, x.2.2.1, x.2.2.2.1, x.2.2.2.2.1, x.2.2.2.2.2.1, x.2.2.2.2.2.2.1, x.2.2.2.2.2.2.2.1, xh)
 let t1 := (false, x.2.1, x.2.2.1, x.2.2.2.1, x.2.2.2.2.1, x.2.2.2.2.2.1, x.2.2.2.2.2.2.1, x.2.2.2.2.2.2.2.1, xh)
 bif (x.2.2.1 == (2 : Int)) then
 vlf xh (fun y14 =>
 bif (!y14) then
 k t1
 else
 bif (x.2.2.1 != (2 : Int)) then
 bif (!(vas xh (⟨#[]⟩ : ByteArray))) then
 k t1
 else
 vbo t0 (fun z15 =>
 k (z15.1, z15.2.1, z15.2.2.1, z15.2.2.2.1, z15.2.2.2.2.1, z15.2.2.2.2.2.1, z15.2.2.2.2.2.2.1, z15.2.2.2.2.2.2.2.1, z15.2.2.2.2.2.2.2.2))
 else
 vbo t0 (fun z16 =>
 k (z16.1, z16.2.1, z16.2.2.1, z16.2.2.2.1, z16.2.2.2.2.1, z16.2.2.2.2.2.1, z16.2.2.2.2.2.2.1, z16.2.2.2.2.2.2.2.1, z16.2.2.2.2.2.2.2.2)))
 else
 bif (x.2.2.1 != (2 : Int)) then
 bif (!(vas xh (⟨#[]⟩ : ByteArray))) then
 k t1
 else
 vbo t0 (fun z17 =>
 k (z17.1, z17.2.1, z17.2.2.1, z17.2.2.2.1, z17.2.2.2.2.1, z17.2.2.2.2.2.1, z17.2.2.2.2.2.2.1, z17.2.2.2.2.2.2.2.1, z17.2.2.2.2.2.2.2.2))
 else
 vbo t0 (fun z18 =>
 k (z18.1, z18.2.1, z18.2.2.1, z18.2.2.2.1, z18.2.2.2.2.1, z18.2.2.2.2.2.1, z18.2.2.2.2.2.2.1, z18.2.2.2.2.2.2.2.1, z18.2.2.2.2.2.2.2.2))
instance n66n_jp5000010 (x : q22T) : ParC (vbn x) := by unfold vbn; (try dsimp only); exact ⟨(vam ((n61n_p _).p.bind fun y14 => (vam (vai _) (vam (vam (vai _) ((n66n_jp5000012 _).p.bind fun z15 => (vai _))) ((n66n_jp5000012 _).p.bind fun z16 => (vai _))))) (vam (vam (vai _) ((n66n_jp5000012 _).p.bind fun z17 => (vai _))) ((n66n_jp5000012 _).p.bind fun z18 => (vai _))))⟩
def vjy (x : q24T) (k : q24T ⊕ (q24T ⊕ q24T) → Option Res) : Option Res :=
 let xh := x.2.2.2.2.2.2.2.2
 bif (decide (x.2.1 < (x.2.2.2.2.2.2.1.length : Int))) then
 if 0 ≤ x.2.1 ∧ x.2.1 < (x.2.2.2.2.2.2.1.length : Int) then
 vu7 (rd (Ty.zero tRange) x.2.2.2.2.2.2.1 x.2.1) (fun y6 =>
 bif (!y6) then
 k (.inr (.inl (false, x.2.1, x.2.2.1, x.2.2.2.1, x.2.2.2.2.1, x.2.2.2.2.2.1, x.2.2.2.2.2.2.1, x.2.2.2.2.2.2.2.1, xh.1, xh.2)))
 else
 k (.inl (x.1, (IntKind.wrap .i64 (x.2.1 + 1)), x.2.2.1, x.2.2.2.1, x.2.2.2.2.1, x.2.2.2.2.2.1, x.2.2.2.2.2.2.1, x.2.2.2.2.2.2.2.1, xh.1, xh.2)))
 else none
 else
 k (.inr (.inr (x.1, x.2.1, x.2.2.1, x.2.2.2.1, x.2.2.2.2.1, x.2.2.2.2.2.1, x.2.2.2.2.2.2.1, x.2.2.2.2.2.2.2.1, xh.1, xh.2)))
instance n66n_bp0 (x : q24T) : ParC (vjy x) := by unfold vjy; (try dsimp only); infer_instance
def vcs (x : q22T) (k : q22T → Option Res) : Option Res :=
 vae vjy Fuel (x.1, 0, x.2.1, x.2.2.1, x.2.2.2.1, x.2.2.2.2.1, x.2.2.2.2.2.1, x.2.2.2.2.2.2.1, x.2.2.2.2.2.2.2.1, x.2.2.2.2.2.2.2.2) (Sum.elim (fun z7 =>
 let z7h := z7.2.2.2.2.2.2.2.2
 k (z7.1, z7.2.2.1, z7.2.2.2.1, z7.2.2.2.2.1, z7.2.2.2.2.2.1, z7.2.2.2.2.2.2.1, z7.2.2.2.2.2.2.2.1, z7h.1, z7h.2)) (fun z8 =>
 let z8h := z8.2.2.2.2.2.2.2.2
 bif (z8.2.2.2.1 == (3 : Int)) then
 vfb z8.2.2.2.2.2.1 (IntKind.wrap .i64 (z8.2.2.2.2.1 + 1)) (9999 : Int) (fun y9 =>
 bif (!y9) then
 k (false, z8.2.2.1, z8.2.2.2.1, z8.2.2.2.2.1, z8.2.2.2.2.2.1, z8.2.2.2.2.2.2.1, z8.2.2.2.2.2.2.2.1, z8h.1, z8h.2)
 else
 bif (z8.2.2.2.1 != (3 : Int)) then
 bif (z8.2.2.2.2.2.1 != (0 : Int)) then
 k (false, z8.2.2.1, z8.2.2.2.1, z8.2.2.2.2.1, z8.2.2.2.2.2.1, z8.2.2.2.2.2.2.1, z8.2.2.2.2.2.2.2.1, z8h.1, z8h.2)
 else
 vbn (z8.1, z8.2.2.1, z8.2.2.2.1, z8.2.2.2.2.1, z8.2.2.2.2.2.1, z8.2.2.2.2.2.2.1, z8.2.2.2.2.2.2.2.1, z8h.1, z8h.2) (fun z10 =>
 k (z10.1, z10.2.1, z10.2.2.1, z10.2.2.2.1, z10.2.2.2.2.1, z10.2.2.2.2.2.1, z10.2.2.2.2.2.2.1, z10.2.2.2.2.2.2.2.1, z10.2.2.2.2.2.2.2.2))
 else
 vbn (z8.1, z8.2.2.1, z8.2.2.2.1, z8.2.2.2.2.1, z8.2.2.2.2.2.1, z8.2.2.2.2.2.2.1, z8.2.2.2.2.2.2.2.1, z8h.1, z8h.2) (fun z11 =>
 k (z11.1, z11.2.1, z11.2.2.1, z11.2.2.2.1, z11.2.2.2.2.1, z11.2.2.2.2.2.1, z11.2.2.2.2.2.2.1, z11.2.2.2.2.2.2.2.1, z11.2.2.2.2.2.2.2.2)))
 else
 bif (z8.2.2.2.1 != (3 : Int)) then
 bif (z8.2.2.2.2.2.1 != (0 : Int)) then
 k (false, z8.2.2.1, z8.2.2.2.1, z8.2.2.2.2.1, z8.2.2.2.2.2.1, z8.2.2.2.2.2.2.1, z8.2.2.2.2.2.2.2.1, z8h.1, z8h.2)
 else
 vbn (z8.1, z8.2.2.1, z8.2.2.2.1, z8.2.2.2.2.1, z8.2.2.2.2.2.1, z8.2.2.2.2.2.2.1, z8.2.2.2.2.2.2.2.1, z8h.1, z8h.2) (fun z12 =>
 k (z12.1, z12.2.1, z12.2.2.1, z12.2.2.2.1, z12.2.2.2.2.1, z12.2.2.2.2.2.1, z12.2.2.2.2.2.2.1, z12.2.2.2.2.2.2.2.1, z12.2.2.2.2.2.2.2.2))
 else
 vbn (z8.1, z8.2.2.1, z8.2.2.2.1, z8.2.2.2.2.1, z8.2.2.2.2.2.1, z8.2.2.2.2.2.2.1, z8.2.2.2.2.2.2.2.1, z8h.1, z8h.2) (fun z13 =>
 k (z13.1, z13.2.1, z13.2.2.1, z13.2.2.2.1, z13.2.2.2.2.1, z13.2.2.2.2.2.1, z13.2.2.2.2.2.2.1, z13.2.2.2.2.2.2.2.1, z13.2.2.2.2.2.2.2.2))))
instance n66n_jp5000003 (x : q22T) : ParC (vcs x) := by unfold vcs; (try dsimp only); exact ⟨((vpp (fun x => (n66n_bp0 x).p) _ _).bind2 (fun z7 => (vai _)) (fun z8 => (vam ((n70n_p _ _ _).p.bind fun y9 => (vam (vai _) (vam (vam (vai _) ((n66n_jp5000010 _).p.bind fun z10 => (vai _))) ((n66n_jp5000010 _).p.bind fun z11 => (vai _))))) (vam (vam (vai _) ((n66n_jp5000010 _).p.bind fun z12 => (vai _))) ((n66n_jp5000010 _).p.bind fun z13 => (vai _))))))⟩
def v5f (a0 : dTxn) (k : Bool → Option Res) : Option Res :=
 vfb a0.1 (1 : Int) (9999 : Int) (fun y1 =>
 bif (!y1) then
 k false
 else
 vfb a0.2.1 (1 : Int) (3 : Int) (fun y2 =>
 bif (!y2) then
 k false
 else
 vfb a0.2.2.1 (0 : Int) (9999 : Int) (fun y3 =>
 bif (!y3) then
 k false
 else
 bif (decide ((a0.2.2.2.2.1.length : Int) > (8 : Int))) then
 k false
 else
 vno a0.2.2.2.2.2.1 (fun y4 =>
 bif (!y4) then
 k false
 else
 vcs (false, a0.1, a0.2.1, a0.2.2.1, a0.2.2.2.1, a0.2.2.2.2.1, a0.2.2.2.2.2.1, a0.2.2.2.2.2.2.1, a0.2.2.2.2.2.2.2) (fun z5 =>
 k z5.1)))))
def vsg := shut v5f
theorem v76 : vsg = v5f := vah _
instance n66n_p (a0 : dTxn) : ParC (vsg a0) := by rw [v76]; unfold v5f; (try dsimp only); exact ⟨((n70n_p _ _ _).p.bind fun y1 => (vam (vai _) ((n70n_p _ _ _).p.bind fun y2 => (vam (vai _) ((n70n_p _ _ _).p.bind fun y3 => (vam (vai _) (vam (vai _) ((n69n_p _).p.bind fun y4 => (vam (vai _) ((n66n_jp5000003 _).p.bind fun z5 => (vai _)))))))))))⟩
def vio (x : q14T) (k : q14T ⊕ q14T → Option Res) : Option Res :=
 bif (decide (x.2.1 < (x.1.length : Int))) then
 if 0 ≤ x.2.1 ∧ x.2.1 < (x.1.length : Int) then
 bif (vaf ((rd (Ty.zero tWrite) x.1 x.2.1).1) x.2.2.1) then
 if 0 ≤ x.2.1 ∧ x.2.1 < (x.1.length : Int) then
 if x.2.2.2.2.2.length + [(rd (Ty.zero tWrite) x.1 x.2.1)].length ≤ VE.maxLen then
 k (.inl (x.1, (IntKind.wrap .i64 (x.2.1 + 1)), x.2.2.1, x.2.2.2.1, x.2.2.2.2.1, (x.2.2.2.2.2 ++ [(rd (Ty.zero tWrite) x.1 x.2.1)])))
 else none
 else none
 else
 k (.inl (x.1, (IntKind.wrap .i64 (x.2.1 + 1)), x.2.2.1, x.2.2.2.1, x.2.2.2.2.1, x.2.2.2.2.2))
 else none
 else
 k (.inr (x.1, x.2.1, x.2.2.1, x.2.2.2.1, x.2.2.2.2.1, x.2.2.2.2.2))
instance n64n_bp0 (x : q14T) : ParC (vio x) := by unfold vio; (try dsimp only); infer_instance
def vjj (x : q14T) (k : q14T ⊕ q14T → Option Res) : Option Res :=
 bif (decide (x.2.1 < (x.1.length : Int))) then
 if 0 ≤ x.2.1 ∧ x.2.1 < (x.1.length : Int) then
 bif (!((vaf ((rd (Ty.zero tWrite) x.1 x.2.1).1) x.2.2.1) || (vas ((rd (Ty.zero tWrite) x.1 x.2.1).1) x.2.2.1))) then
 if 0 ≤ x.2.1 ∧ x.2.1 < (x.1.length : Int) then
 if x.2.2.2.2.2.length + [(rd (Ty.zero tWrite) x.1 x.2.1)].length ≤ VE.maxLen then
 k (.inl (x.1, (IntKind.wrap .i64 (x.2.1 + 1)), x.2.2.1, x.2.2.2.1, x.2.2.2.2.1, (x.2.2.2.2.2 ++ [(rd (Ty.zero tWrite) x.1 x.2.1)])))
 else none
 else none
 else
 k (.inl (x.1, (IntKind.wrap .i64 (x.2.1 + 1)), x.2.2.1, x.2.2.2.1, x.2.2.2.2.1, x.2.2.2.2.2))
 else none
 else
 k (.inr (x.1, x.2.1, x.2.2.1, x.2.2.2.1, x.2.2.2.2.1, x.2.2.2.2.2))
instance n64n_bp2 (x : q14T) : ParC (vjj x) := by unfold vjj; (try dsimp only); infer_instance
def v2r (a0 : (List vaa)) (a1 : vaa) (k : (List vaa) → Option Res) : Option Res :=
 vae vio Fuel (a0, 0, a1.1, a1.2.1, a1.2.2, ([] : List vaa)) (fun z1 =>
 if z1.2.2.2.2.2.length + [(z1.2.2.1, (z1.2.2.2.1, z1.2.2.2.2.1))].length ≤ VE.maxLen then
 vae vjj Fuel (z1.1, 0, z1.2.2.1, z1.2.2.2.1, z1.2.2.2.2.1, (z1.2.2.2.2.2 ++ [(z1.2.2.1, (z1.2.2.2.1, z1.2.2.2.2.1))])) (fun z2 =>
 k z2.2.2.2.2.2)
 else none)
def vqb := shut v2r
theorem v8w : vqb = v2r := vah _
instance n64n_p (a0 : (List vaa)) (a1 : vaa) : ParC (vqb a0 a1) := by rw [v8w]; unfold v2r; (try dsimp only); infer_instance
def vcq (x : q20T) (k : (q21T ⊕ q20T) → Option Res) : Option Res :=
 let xh := x.2.2.2.2.2.2.2.2
 let xhh := xh.2.2.2.2.2.2.2.2
 let xhhh := xhh.2.2.2.2.2.2.2.2
 vqb x.2.2.2.2.2.2.1 (xh.2.1, (xh.2.2.1, xh.2.2.2.1)) (fun y6 =>
 vno y6 (fun y7 =>
 bif (!y7) then
 vlb (x.2.1, (x.2.2.1, (x.2.2.2.1, (x.2.2.2.2.1, (x.2.2.2.2.2.1, (x.2.2.2.2.2.2.1, (x.2.2.2.2.2.2.2.1, xh.1))))))) (fun y8 =>
 k (.inr (false, x.2.1, x.2.2.1, x.2.2.2.1, x.2.2.2.2.1, x.2.2.2.2.2.1, x.2.2.2.2.2.2.1, x.2.2.2.2.2.2.2.1, xh.1, xh.2.1, xh.2.2.1, xh.2.2.2.1, y8.1, y8.2.1, y8.2.2.1, y8.2.2.2.1, y8.2.2.2.2.1, y8.2.2.2.2.2.1, xhh.2.2.1, xhh.2.2.2.1, xhh.2.2.2.2.1, xhh.2.2.2.2.2.1, xhh.2.2.2.2.2.2.1, xhh.2.2.2.2.2.2.2.1, y8.2.2.2.2.2.2.1, y8.2.2.2.2.2.2.2, xhhh.2.2.1, y6)))
 else
 k (.inl (true, x.2.1, x.2.2.1, x.2.2.2.1, x.2.2.2.2.1, x.2.2.2.2.2.1, x.2.2.2.2.2.2.1, x.2.2.2.2.2.2.2.1, xh.1, xh.2.1, xh.2.2.1, xh.2.2.2.1, xhh.2.2.1, xhh.2.2.2.1, xhh.2.2.2.2.1, xhh.2.2.2.2.2.1, xhh.2.2.2.2.2.2.1, xhh.2.2.2.2.2.2.2.1, xhh.2.2.1, xhh.2.2.2.1, xhh.2.2.2.2.1, xhh.2.2.2.2.2.1, xhh.2.2.2.2.2.2.1, xhh.2.2.2.2.2.2.2.1, xhhh.2.2.1, y6))))
instance n67n_jp5000004 (x : q20T) : ParC (vcq x) := by unfold vcq; (try dsimp only); infer_instance
def v4d (a0 : dTxn) (a1 : vaa) (k : q36T → Option Res) : Option Res :=
 vlb a0 (fun y1 =>
 vsg a0 (fun y2 =>
 bif (!y2) then
 k (y1.1, y1.2.1, y1.2.2.1, y1.2.2.2.1, y1.2.2.2.2.1, y1.2.2.2.2.2.1, false, y1.2.2.2.2.2.2.1, y1.2.2.2.2.2.2.2)
 else
 bif (a0.2.1 != (1 : Int)) then
 k (y1.1, y1.2.1, y1.2.2.1, y1.2.2.2.1, y1.2.2.2.2.1, y1.2.2.2.2.2.1, false, y1.2.2.2.2.2.2.1, y1.2.2.2.2.2.2.2)
 else
 vnl a1 (fun y3 =>
 bif (!y3) then
 k (y1.1, y1.2.1, y1.2.2.1, y1.2.2.2.1, y1.2.2.2.2.1, y1.2.2.2.2.2.1, false, y1.2.2.2.2.2.2.1, y1.2.2.2.2.2.2.2)
 else
 vcq (false, a0.1, a0.2.1, a0.2.2.1, a0.2.2.2.1, a0.2.2.2.2.1, a0.2.2.2.2.2.1, a0.2.2.2.2.2.2.1, a0.2.2.2.2.2.2.2, a1.1, a1.2.1, a1.2.2, 0, 0, 0, 0, false, (⟨#[]⟩ : ByteArray), y1.1, y1.2.1, y1.2.2.1, y1.2.2.2.1, y1.2.2.2.2.1, y1.2.2.2.2.2.1, ([] : List vag), ([] : List vaa), y1.2.2.2.2.2.2.1, y1.2.2.2.2.2.2.2) (Sum.elim (fun z4 =>
 let z4h := z4.2.2.2.2.2.2.2.2
 let z4hh := z4h.2.2.2.2.2.2.2.2
 let z4hhh := z4hh.2.2.2.2.2.2.2.2
 k (z4h.2.2.2.2.1, z4h.2.2.2.2.2.1, z4h.2.2.2.2.2.2.1, z4h.2.2.2.2.2.2.2.1, z4hh.1, z4hh.2.1, z4.1, z4hhh.1, z4hhh.2)) (fun z5 =>
 let z5h := z5.2.2.2.2.2.2.2.2
 let z5hh := z5h.2.2.2.2.2.2.2.2
 let z5hhh := z5hh.2.2.2.2.2.2.2.2
 k (z5h.2.2.2.2.1, z5h.2.2.2.2.2.1, z5h.2.2.2.2.2.2.1, z5h.2.2.2.2.2.2.2.1, z5hh.1, z5hh.2.1, z5.1, z5hhh.1, z5hhh.2.1))))))
def vt4 := shut v4d
theorem v9a : vt4 = v4d := vah _
instance n67n_p (a0 : dTxn) (a1 : vaa) : ParC (vt4 a0 a1) := by rw [v9a]; unfold v4d; (try dsimp only); infer_instance
def v48 (a0 : va8) (a1 : Int) (a2 : vaa) (k : q33T → Option Res) : Option Res :=
 vzq a0 (fun y1 =>
 vul a0 a1 (fun y2 =>
 bif (decide (y2 < 0)) then
 k (y1.1, y1.2.1, 1, y1.2.2.1, y1.2.2.2.1, y1.2.2.2.2.1, y1.2.2.2.2.2)
 else
 vnl a2 (fun y3 =>
 bif (!y3) then
 k (y1.1, y1.2.1, 2, y1.2.2.1, y1.2.2.2.1, y1.2.2.2.2.1, y1.2.2.2.2.2)
 else
 if 0 ≤ y2 ∧ y2 < (a0.2.length : Int) then
 vt4 (rd (Ty.zero tTxn) a0.2 y2) a2 (fun y4 =>
 bif (!y4.2.2.2.2.2.2.1) then
 k (y1.1, y1.2.1, 3, y1.2.2.1, y1.2.2.2.1, y1.2.2.2.2.1, y1.2.2.2.2.2)
 else
 if 0 ≤ y2 ∧ y2 < (y1.2.2.2.2.2.length : Int) then
 k (y1.1, y1.2.1, 0, y1.2.2.1, y1.2.2.2.1, y1.2.2.2.2.1, (y1.2.2.2.2.2.set y2.toNat (y4.1, (y4.2.1, (y4.2.2.1, (y4.2.2.2.1, (y4.2.2.2.2.2.2.2.1, (y4.2.2.2.2.2.2.2.2, (y4.2.2.2.2.1, y4.2.2.2.2.2.1)))))))))
 else none)
 else none)))
def vvz := shut v48
theorem wan : vvz = v48 := vah _
instance n63n_p (a0 : va8) (a1 : Int) (a2 : vaa) : ParC (vvz a0 a1 a2) := by rw [wan]; unfold v48; (try dsimp only); infer_instance
def v30 (a0 : dTxn) (k : q35T → Option Res) : Option Res :=
 if a0.2.2.2.2.1.length ≤ VE.maxLen then
 if a0.2.2.2.2.2.1.length ≤ VE.maxLen then
 k (a0.1, a0.2.1, a0.2.2.1, a0.2.2.2.1, a0.2.2.2.2.2.2.1, a0.2.2.2.2.2.2.2, a0.2.2.2.2.1, a0.2.2.2.2.2.1)
 else none
 else none
def vlg := shut v30
theorem v7s : vlg = v30 := vah _
instance n12n_p (a0 : dTxn) : ParC (vlg a0) := by rw [v7s]; unfold v30; (try dsimp only); infer_instance
def viy (x : q5T) (k : q5T ⊕ q5T → Option Res) : Option Res :=
 bif (decide (x.2.2.1 < x.2.1)) then
 if 0 ≤ x.2.2.1 ∧ x.2.2.1 < (x.1.length : Int) then
 vlg (rd (Ty.zero tTxn) x.1 x.2.2.1) (fun y2 =>
 if x.2.2.2.length + [(y2.1, (y2.2.1, (y2.2.2.1, (y2.2.2.2.1, (y2.2.2.2.2.2.2.1, (y2.2.2.2.2.2.2.2, (y2.2.2.2.2.1, y2.2.2.2.2.2.1)))))))].length ≤ VE.maxLen then
 k (.inl (x.1, x.2.1, (IntKind.wrap .i64 (x.2.2.1 + 1)), (x.2.2.2 ++ [(y2.1, (y2.2.1, (y2.2.2.1, (y2.2.2.2.1, (y2.2.2.2.2.2.2.1, (y2.2.2.2.2.2.2.2, (y2.2.2.2.2.1, y2.2.2.2.2.2.1)))))))])))
 else none)
 else none
 else
 k (.inr (x.1, x.2.1, x.2.2.1, x.2.2.2))
instance n13n_bp0 (x : q5T) : ParC (viy x) := by unfold viy; (try dsimp only); infer_instance
def v22 (a0 : (List dTxn)) (k : (List dTxn) → Option Res) : Option Res :=
 vae viy Fuel (a0, (a0.length : Int), 0, ([] : List dTxn)) (fun z1 =>
 k z1.2.2.2)
def vou := shut v22
theorem v96 : vou = v22 := vah _
instance n13n_p (a0 : (List dTxn)) : ParC (vou a0) := by rw [v96]; unfold v22; (try dsimp only); infer_instance
def v4n (a0 : vk6) (k : q32T → Option Res) : Option Res :=
 if a0.1.length ≤ VE.maxLen then
 vou a0.2.1 (fun y1 =>
 vou a0.2.2.1 (fun y2 =>
 k (a0.2.2.2.1, a0.2.2.2.2, a0.1, y1, y2)))
 else none
def v20 := shut v4n
theorem v82 : v20 = v4n := vah _
instance n10n_p (a0 : vk6) : ParC (v20 a0) := by rw [v82]; unfold v4n; (try dsimp only); infer_instance
def v4a (a0 : va8) (k : q31T → Option Res) : Option Res :=
 v20 a0.1 (fun y1 =>
 vou a0.2 (fun y2 =>
 k (y1.1, y1.2.1, y1.2.2.1, y1.2.2.2.1, y1.2.2.2.2, y2)))
def vzr := shut v4a
theorem v8p : vzr = v4a := vah _
instance n11n_p (a0 : va8) : ParC (vzr a0) := by rw [v8p]; unfold v4a; (try dsimp only); infer_instance
def v8r (a0 : dTxn) (a1 : Int) (k : (Bool × Int) → Option Res) : Option Res :=
 k ((a0.1 == a1), a1)
def vtn := shut v8r
theorem v9p : vtn = v8r := vah _
instance n02n_p (a0 : dTxn) (a1 : Int) : ParC (vtn a0 a1) := by rw [v9p]; unfold v8r; (try dsimp only); infer_instance
def vjx (x : q6T) (k : q6T ⊕ (q6T ⊕ q6T) → Option Res) : Option Res :=
 bif (decide (x.2.2.2.1 < x.2.2.1)) then
 if 0 ≤ x.2.2.2.1 ∧ x.2.2.2.1 < (x.1.length : Int) then
 vtn (rd (Ty.zero tTxn) x.1 x.2.2.2.1) x.2.2.2.2 (fun y3 =>
 bif y3.1 then
 k (.inr (.inl (x.1, x.2.2.2.1, x.2.2.1, x.2.2.2.1, y3.2)))
 else
 k (.inl (x.1, x.2.1, x.2.2.1, (IntKind.wrap .i64 (x.2.2.2.1 + 1)), y3.2)))
 else none
 else
 k (.inr (.inr (x.1, x.2.1, x.2.2.1, x.2.2.2.1, x.2.2.2.2)))
instance n59n_bp0 (x : q6T) : ParC (vjx x) := by unfold vjx; (try dsimp only); infer_instance
def v45 (a0 : (List dTxn)) (a1 : Int) (k : (Int × Int) → Option Res) : Option Res :=
 vae vjx Fuel (a0, 0, (a0.length : Int), 0, a1) (Sum.elim (fun z1 =>
 k (z1.2.1, z1.2.2.2.2)) (fun z2 =>
 k ((-1 : Int), z2.2.2.2.2)))
def vz2 := shut v45
theorem wa6 : vz2 = v45 := vah _
instance n59n_p (a0 : (List dTxn)) (a1 : Int) : ParC (vz2 a0 a1) := by rw [wa6]; unfold v45; (try dsimp only); infer_instance
def v4o (a0 : va8) (a1 : Int) (k : Int → Option Res) : Option Res :=
 vz2 a0.2 a1 (fun y1 =>
 k y1.1)
def vz9 := shut v4o
theorem v7z : vz9 = v4o := vah _
instance n01n_p (a0 : va8) (a1 : Int) : ParC (vz9 a0 a1) := by rw [v7z]; unfold v4o; (try dsimp only); infer_instance
def v23 (a0 : Int) (a1 : Int) (a2 : Int) (k : Bool → Option Res) : Option Res :=
 bif (decide (a0 ≥ a1)) then
 k (decide (a0 ≤ a2))
 else
 k false
def vfm := shut v23
theorem wa5 : vfm = v23 := vah _
instance n14n_p (a0 : Int) (a1 : Int) (a2 : Int) : ParC (vfm a0 a1 a2) := by rw [wa5]; unfold v23; (try dsimp only); infer_instance
def vkk (x : (ByteArray × Bool × Int)) (k : (ByteArray × Bool × Int) ⊕ ((ByteArray × Bool × Int) ⊕ (ByteArray × Bool × Int)) → Option Res) : Option Res :=
 bif (decide (x.2.2 < (x.1.size : Int))) then
 if 0 ≤ x.2.2 ∧ x.2.2 < (x.1.size : Int) then
 bif (decide ((bt x.1 x.2.2) < (97 : Int))) then
 k (.inr (.inl (x.1, false, x.2.2)))
 else
 if 0 ≤ x.2.2 ∧ x.2.2 < (x.1.size : Int) then
 bif (decide ((bt x.1 x.2.2) > (122 : Int))) then
 k (.inr (.inl (x.1, false, x.2.2)))
 else
 k (.inl (x.1, x.2.1, (IntKind.wrap .i64 (x.2.2 + 1))))
 else none
 else none
 else
 k (.inr (.inr (x.1, x.2.1, x.2.2)))
instance n00n_bp0 (x : (ByteArray × Bool × Int)) : ParC (vkk x) := by unfold vkk; (try dsimp only); infer_instance
def v2y (a0 : ByteArray) (k : Bool → Option Res) : Option Res :=
 vae vkk Fuel (a0, false, 0) (Sum.elim (fun z1 =>
 k z1.2.1) (fun z2 =>
 vfm (z2.1.size : Int) (1 : Int) (3 : Int) (fun y3 =>
 k y3)))
def vli := shut v2y
theorem v89 : vli = v2y := vah _
instance n00n_p (a0 : ByteArray) : ParC (vli a0) := by rw [v89]; unfold v2y; (try dsimp only); infer_instance
def v39 (a0 : vaa) (k : Bool → Option Res) : Option Res :=
 vli a0.1 (fun y1 =>
 bif y1 then
 bif (decide ((a0.2.1.size : Int) ≤ (12 : Int))) then
 bif (!a0.2.2) then
 k true
 else
 k (vas a0.2.1 (⟨#[]⟩ : ByteArray))
 else
 k false
 else
 k false)
def vmq := shut v39
theorem wax : vmq = v39 := vah _
instance n08n_p (a0 : vaa) : ParC (vmq a0) := by rw [wax]; unfold v39; (try dsimp only); infer_instance
def v3k (a0 : vag) (k : Bool → Option Res) : Option Res :=
 vli a0.1 (fun y1 =>
 bif y1 then
 vli a0.2 (fun y2 =>
 bif y2 then
 k ((vaf a0.1 a0.2) || (vas a0.1 a0.2))
 else
 k false)
 else
 k false)
def vuk := shut v3k
theorem wa8 : vuk = v3k := vah _
instance n05n_p (a0 : vag) : ParC (vuk a0) := by rw [wa8]; unfold v3k; (try dsimp only); infer_instance
def vjo (x : q12T) (k : q12T ⊕ (q12T ⊕ q12T) → Option Res) : Option Res :=
 bif (decide (x.2.2.2.2 < x.2.2.2.1)) then
 if 0 ≤ x.2.2.2.2 ∧ x.2.2.2.2 < (x.2.2.1.length : Int) then
 vmq (rd (Ty.zero tWrite) x.2.2.1 x.2.2.2.2) (fun y3 =>
 bif (!y3) then
 k (.inr (.inl (x.1, false, x.2.2.1, x.2.2.2.1, x.2.2.2.2)))
 else
 bif (decide (x.2.2.2.2 > 0)) then
 if 0 ≤ (IntKind.wrap .i64 (x.2.2.2.2 - 1)) ∧ (IntKind.wrap .i64 (x.2.2.2.2 - 1)) < (x.1.length : Int) then
 bif (!(vaf ((rd (Ty.zero tWrite) x.1 (IntKind.wrap .i64 (x.2.2.2.2 - 1))).1) ((rd (Ty.zero tWrite) x.2.2.1 x.2.2.2.2).1))) then
 k (.inr (.inl (x.1, false, x.2.2.1, x.2.2.2.1, x.2.2.2.2)))
 else
 k (.inl (x.1, x.2.1, x.2.2.1, x.2.2.2.1, (IntKind.wrap .i64 (x.2.2.2.2 + 1))))
 else none
 else
 k (.inl (x.1, x.2.1, x.2.2.1, x.2.2.2.1, (IntKind.wrap .i64 (x.2.2.2.2 + 1)))))
 else none
 else
 k (.inr (.inr (x.1, x.2.1, x.2.2.1, x.2.2.2.1, x.2.2.2.2)))
instance n09n_bp0 (x : q12T) : ParC (vjo x) := by unfold vjo; (try dsimp only); infer_instance
def v2z (a0 : (List vaa)) (k : Bool → Option Res) : Option Res :=
 vae vjo Fuel (a0, false, a0, (a0.length : Int), 0) (Sum.elim (fun z1 =>
 k z1.2.1) (fun z2 =>
 k (decide ((z2.1.length : Int) ≤ (8 : Int)))))
def vqt := shut v2z
theorem waw : vqt = v2z := vah _
instance n09n_p (a0 : (List vaa)) : ParC (vqt a0) := by rw [waw]; unfold v2z; (try dsimp only); infer_instance
def vbp (x : q22T) (k : q22T → Option Res) : Option Res :=
 let xh := x.2.2.2.2.2.2.2.2
 bif (x.2.2.1 == (2 : Int)) then
 vli xh (fun y15 =>
 bif y15 then
 k (true, x.2.1, x.2.2.1, x.2.2.2.1, x.2.2.2.2.1, x.2.2.2.2.2.1, x.2.2.2.2.2.2.1, x.2.2.2.2.2.2.2.1, xh)
 else
 bif (x.2.2.1 != (2 : Int)) then
 k ((vas xh (⟨#[]⟩ : ByteArray)), x.2.1, x.2.2.1, x.2.2.2.1, x.2.2.2.2.1, x.2.2.2.2.2.1, x.2.2.2.2.2.2.1, x.2.2.2.2.2.2.2.1, xh)
 else
 k (false, x.2.1, x.2.2.1, x.2.2.2.1, x.2.2.2.2.1, x.2.2.2.2.2.1, x.2.2.2.2.2.2.1, x.2.2.2.2.2.2.2.1, xh))
 else
 bif (x.2.2.1 != (2 : Int)) then
 k ((vas xh (⟨#[]⟩ : ByteArray)), x.2.1, x.2.2.1, x.2.2.2.1, x.2.2.2.2.1, x.2.2.2.2.2.1, x.2.2.2.2.2.2.1, x.2.2.2.2.2.2.2.1, xh)
 else
 k (false, x.2.1, x.2.2.1, x.2.2.2.1, x.2.2.2.2.1, x.2.2.2.2.2.1, x.2.2.2.2.2.2.1, x.2.2.2.2.2.2.2.1, xh)
instance n06n_jp5000011 (x : q22T) : ParC (vbp x) := by unfold vbp; (try dsimp only); infer_instance
def vca (x : q22T) (k : q22T → Option Res) : Option Res :=
 let xh := x.2.2.2.2.2.2.2.2
 let t0 := (x.1, x.2.1, x.2.2.1, x.2.2.2.1, x.2.2.2.2.1, x.2.2.2.2.2.1, x.2.2.2.2.2.2.1, x.2.2.2.2.2.2.2.1, xh)
 let t1 := (false, x.2.1, x.2.2.1, x.2.2.2.1, x.2.2.2.2.1, x.2.2.2.2.2.1, x.2.2.2.2.2.2.1, x.2.2.2.2.2.2.2.1, xh)
 bif (x.2.2.1 == (3 : Int)) then
 vfm x.2.2.2.2.1 (IntKind.wrap .i64 (x.2.2.2.1 + 1)) (9999 : Int) (fun y10 =>
 bif (!y10) then
 k t1
 else
 bif (x.2.2.1 != (3 : Int)) then
 bif (x.2.2.2.2.1 != (0 : Int)) then
 k t1
 else
 vbp t0 (fun z11 =>
 k (z11.1, z11.2.1, z11.2.2.1, z11.2.2.2.1, z11.2.2.2.2.1, z11.2.2.2.2.2.1, z11.2.2.2.2.2.2.1, z11.2.2.2.2.2.2.2.1, z11.2.2.2.2.2.2.2.2))
 else
 vbp t0 (fun z12 =>
 k (z12.1, z12.2.1, z12.2.2.1, z12.2.2.2.1, z12.2.2.2.2.1, z12.2.2.2.2.2.1, z12.2.2.2.2.2.2.1, z12.2.2.2.2.2.2.2.1, z12.2.2.2.2.2.2.2.2)))
 else
 bif (x.2.2.1 != (3 : Int)) then
 bif (x.2.2.2.2.1 != (0 : Int)) then
 k t1
 else
 vbp t0 (fun z13 =>
 k (z13.1, z13.2.1, z13.2.2.1, z13.2.2.2.1, z13.2.2.2.2.1, z13.2.2.2.2.2.1, z13.2.2.2.2.2.2.1, z13.2.2.2.2.2.2.2.1, z13.2.2.2.2.2.2.2.2))
 else
 vbp t0 (fun z14 =>
 k (z14.1, z14.2.1, z14.2.2.1, z14.2.2.2.1, z14.2.2.2.2.1, z14.2.2.2.2.2.1, z14.2.2.2.2.2.2.1, z14.2.2.2.2.2.2.2.1, z14.2.2.2.2.2.2.2.2))
instance n06n_jp5000009 (x : q22T) : ParC (vca x) := by unfold vca; (try dsimp only); exact ⟨(vam ((n14n_p _ _ _).p.bind fun y10 => (vam (vai _) (vam (vam (vai _) ((n06n_jp5000011 _).p.bind fun z11 => (vai _))) ((n06n_jp5000011 _).p.bind fun z12 => (vai _))))) (vam (vam (vai _) ((n06n_jp5000011 _).p.bind fun z13 => (vai _))) ((n06n_jp5000011 _).p.bind fun z14 => (vai _))))⟩
def vj8 (x : q16T) (k : q16T ⊕ (q16T ⊕ q16T) → Option Res) : Option Res :=
 let xh := x.2.2.2.2.2.2.2.2
 bif (decide (x.2.2.2.1 < x.2.2.1)) then
 if 0 ≤ x.2.2.2.1 ∧ x.2.2.2.1 < (x.2.1.length : Int) then
 vuk (rd (Ty.zero tRange) x.2.1 x.2.2.2.1) (fun y9 =>
 bif (!y9) then
 k (.inr (.inl (false, x.2.1, x.2.2.1, x.2.2.2.1, x.2.2.2.2.1, x.2.2.2.2.2.1, x.2.2.2.2.2.2.1, x.2.2.2.2.2.2.2.1, xh.1, xh.2.1, xh.2.2.1, xh.2.2.2)))
 else
 k (.inl (x.1, x.2.1, x.2.2.1, (IntKind.wrap .i64 (x.2.2.2.1 + 1)), x.2.2.2.2.1, x.2.2.2.2.2.1, x.2.2.2.2.2.2.1, x.2.2.2.2.2.2.2.1, xh.1, xh.2.1, xh.2.2.1, xh.2.2.2)))
 else none
 else
 k (.inr (.inr (x.1, x.2.1, x.2.2.1, x.2.2.2.1, x.2.2.2.2.1, x.2.2.2.2.2.1, x.2.2.2.2.2.2.1, x.2.2.2.2.2.2.2.1, xh.1, xh.2.1, xh.2.2.1, xh.2.2.2)))
instance n06n_bp0 (x : q16T) : ParC (vj8 x) := by unfold vj8; (try dsimp only); infer_instance
def v29 (a0 : dTxn) (k : Bool → Option Res) : Option Res :=
 vae vj8 Fuel (false, a0.2.2.2.2.1, (a0.2.2.2.2.1.length : Int), 0, a0.1, a0.2.1, a0.2.2.1, a0.2.2.2.1, a0.2.2.2.2.1, a0.2.2.2.2.2.1, a0.2.2.2.2.2.2.1, a0.2.2.2.2.2.2.2) (Sum.elim (fun z1 =>
 k z1.1) (fun z2 =>
 let z2h := z2.2.2.2.2.2.2.2.2
 vfm z2.2.2.2.2.1 (1 : Int) (9999 : Int) (fun y3 =>
 bif (!y3) then
 k false
 else
 vfm z2.2.2.2.2.2.1 (1 : Int) (3 : Int) (fun y4 =>
 bif (!y4) then
 k false
 else
 vfm z2.2.2.2.2.2.2.1 (0 : Int) (9999 : Int) (fun y5 =>
 bif (!y5) then
 k false
 else
 bif (decide ((z2h.1.length : Int) > (8 : Int))) then
 k false
 else
 vqt z2h.2.1 (fun y6 =>
 bif (!y6) then
 k false
 else
 bif z2h.2.2.1 then
 bif (z2.2.2.2.2.2.1 == (1 : Int)) then
 k false
 else
 vca (z2.1, z2.2.2.2.2.1, z2.2.2.2.2.2.1, z2.2.2.2.2.2.2.1, z2.2.2.2.2.2.2.2.1, z2h.1, z2h.2.1, z2h.2.2.1, z2h.2.2.2) (fun z7 =>
 k z7.1)
 else
 vca (z2.1, z2.2.2.2.2.1, z2.2.2.2.2.2.1, z2.2.2.2.2.2.2.1, z2.2.2.2.2.2.2.2.1, z2h.1, z2h.2.1, z2h.2.2.1, z2h.2.2.2) (fun z8 =>
 k z8.1)))))))
def vne := shut v29
theorem wbv : vne = v29 := vah _
instance n06n_p (a0 : dTxn) : ParC (vne a0) := by rw [wbv]; unfold v29; (try dsimp only); exact ⟨((vpp (fun x => (n06n_bp0 x).p) _ _).bind2 (fun z1 => (vai _)) (fun z2 => ((n14n_p _ _ _).p.bind fun y3 => (vam (vai _) ((n14n_p _ _ _).p.bind fun y4 => (vam (vai _) ((n14n_p _ _ _).p.bind fun y5 => (vam (vai _) (vam (vai _) ((n09n_p _).p.bind fun y6 => (vam (vai _) (vam (vam (vai _) ((n06n_jp5000009 _).p.bind fun z7 => (vai _))) ((n06n_jp5000009 _).p.bind fun z8 => (vai _))))))))))))))⟩
def vuf (a0 : Int) (a1 : (List vaa)) (a2 : (List vaa)) (k : ((List vaa) × (List vaa)) → Option Res) : Option Res :=
 if 0 ≤ a0 ∧ a0 ≤ (a1.length : Int) ∧ 0 < a2.length ∧ a1.length + a2.length ≤ 1073741824 then
 k (a2, (insL a1 a0 a2))
 else none
def vya := shut vuf
theorem v4i : vya = vuf := vah _
instance n60n_p (a0 : Int) (a1 : (List vaa)) (a2 : (List vaa)) : ParC (vya a0 a1 a2) := by rw [v4i]; unfold vuf; (try dsimp only); infer_instance
def vdc (x : q30T) (k : q30T → Option Res) : Option Res :=
 k ((IntKind.wrap .i64 (x.1 + 1)), x.2.1, x.2.2.1, x.2.2.2.1, x.2.2.2.2)
instance n04n_jp6000001 (x : q30T) : ParC (vdc x) := by unfold vdc; (try dsimp only); infer_instance
def vlr (x : q30T) (k : q30T ⊕ q30T → Option Res) : Option Res :=
 bif (decide (x.1 < (x.2.2.2.2.length : Int))) then
 if 0 ≤ x.1 ∧ x.1 < (x.2.2.2.2.length : Int) then
 bif (vaf ((x.2.2.2.2.getD x.1.toNat (Ty.zero tWrite)).1) x.2.1) then
 vdc (x.1, x.2.1, x.2.2.1, x.2.2.2.1, x.2.2.2.2) (fun z4 =>
 k (.inl (z4.1, z4.2.1, z4.2.2.1, z4.2.2.2.1, z4.2.2.2.2)))
 else
 k (.inr (x.1, x.2.1, x.2.2.1, x.2.2.2.1, x.2.2.2.2))
 else none
 else
 k (.inr (x.1, x.2.1, x.2.2.1, x.2.2.2.1, x.2.2.2.2))
instance n04n_bp0 (x : q30T) : ParC (vlr x) := by unfold vlr; (try dsimp only); infer_instance
def v5b (a0 : (List vaa)) (a1 : vaa) (k : (List vaa) → Option Res) : Option Res :=
 if a0.length ≤ VE.maxLen then
 vae vlr Fuel (0, a1.1, a1.2.1, a1.2.2, a0) (fun z1 =>
 bif (decide (z1.1 < (z1.2.2.2.2.length : Int))) then
 if 0 ≤ z1.1 ∧ z1.1 < (z1.2.2.2.2.length : Int) then
 bif (vas ((z1.2.2.2.2.getD z1.1.toNat (Ty.zero tWrite)).1) z1.2.1) then
 if 0 ≤ z1.1 ∧ z1.1 < (z1.2.2.2.2.length : Int) then
 k (z1.2.2.2.2.set z1.1.toNat (z1.2.1, (z1.2.2.1, z1.2.2.2.1)))
 else none
 else
 vya z1.1 z1.2.2.2.2 [(z1.2.1, (z1.2.2.1, z1.2.2.2.1))] (fun y2 =>
 k y2.2)
 else none
 else
 vya z1.1 z1.2.2.2.2 [(z1.2.1, (z1.2.2.1, z1.2.2.2.1))] (fun y3 =>
 k y3.2))
 else none
def vuu := shut v5b
theorem v9i : vuu = v5b := vah _
instance n04n_p (a0 : (List vaa)) (a1 : vaa) : ParC (vuu a0 a1) := by rw [v9i]; unfold v5b; (try dsimp only); infer_instance
def vcw (x : q20T) (k : (q21T ⊕ q20T) → Option Res) : Option Res :=
 let xh := x.2.2.2.2.2.2.2.2
 let xhh := xh.2.2.2.2.2.2.2.2
 let xhhh := xhh.2.2.2.2.2.2.2.2
 vuu x.2.2.2.2.2.2.1 (xh.2.1, (xh.2.2.1, xh.2.2.2.1)) (fun y6 =>
 vne (xhh.2.2.1, (xhh.2.2.2.1, (xhh.2.2.2.2.1, (xhh.2.2.2.2.2.1, (xhhh.2.2.1, (y6, (xhh.2.2.2.2.2.2.1, xhh.2.2.2.2.2.2.2.1))))))) (fun y7 =>
 bif (!y7) then
 vlg (x.2.1, (x.2.2.1, (x.2.2.2.1, (x.2.2.2.2.1, (x.2.2.2.2.2.1, (x.2.2.2.2.2.2.1, (x.2.2.2.2.2.2.2.1, xh.1))))))) (fun y8 =>
 k (.inr (false, x.2.1, x.2.2.1, x.2.2.2.1, x.2.2.2.2.1, x.2.2.2.2.2.1, x.2.2.2.2.2.2.1, x.2.2.2.2.2.2.2.1, xh.1, xh.2.1, xh.2.2.1, xh.2.2.2.1, y8.1, y8.2.1, y8.2.2.1, y8.2.2.2.1, y8.2.2.2.2.1, y8.2.2.2.2.2.1, xhh.2.2.1, xhh.2.2.2.1, xhh.2.2.2.2.1, xhh.2.2.2.2.2.1, xhh.2.2.2.2.2.2.1, xhh.2.2.2.2.2.2.2.1, y8.2.2.2.2.2.2.1, y8.2.2.2.2.2.2.2, xhhh.2.2.1, y6)))
 else
 k (.inl (true, x.2.1, x.2.2.1, x.2.2.2.1, x.2.2.2.2.1, x.2.2.2.2.2.1, x.2.2.2.2.2.2.1, x.2.2.2.2.2.2.2.1, xh.1, xh.2.1, xh.2.2.1, xh.2.2.2.1, xhh.2.2.1, xhh.2.2.2.1, xhh.2.2.2.2.1, xhh.2.2.2.2.2.1, xhh.2.2.2.2.2.2.1, xhh.2.2.2.2.2.2.2.1, xhh.2.2.1, xhh.2.2.2.1, xhh.2.2.2.2.1, xhh.2.2.2.2.2.1, xhh.2.2.2.2.2.2.1, xhh.2.2.2.2.2.2.2.1, xhhh.2.2.1, y6))))
instance n07n_jp5000004 (x : q20T) : ParC (vcw x) := by unfold vcw; (try dsimp only); infer_instance
def v3b (a0 : dTxn) (a1 : vaa) (k : q36T → Option Res) : Option Res :=
 vlg a0 (fun y1 =>
 vne a0 (fun y2 =>
 bif (!y2) then
 k (y1.1, y1.2.1, y1.2.2.1, y1.2.2.2.1, y1.2.2.2.2.1, y1.2.2.2.2.2.1, false, y1.2.2.2.2.2.2.1, y1.2.2.2.2.2.2.2)
 else
 bif (a0.2.1 != (1 : Int)) then
 k (y1.1, y1.2.1, y1.2.2.1, y1.2.2.2.1, y1.2.2.2.2.1, y1.2.2.2.2.2.1, false, y1.2.2.2.2.2.2.1, y1.2.2.2.2.2.2.2)
 else
 vmq a1 (fun y3 =>
 bif (!y3) then
 k (y1.1, y1.2.1, y1.2.2.1, y1.2.2.2.1, y1.2.2.2.2.1, y1.2.2.2.2.2.1, false, y1.2.2.2.2.2.2.1, y1.2.2.2.2.2.2.2)
 else
 vcw (false, a0.1, a0.2.1, a0.2.2.1, a0.2.2.2.1, a0.2.2.2.2.1, a0.2.2.2.2.2.1, a0.2.2.2.2.2.2.1, a0.2.2.2.2.2.2.2, a1.1, a1.2.1, a1.2.2, 0, 0, 0, 0, false, (⟨#[]⟩ : ByteArray), y1.1, y1.2.1, y1.2.2.1, y1.2.2.2.1, y1.2.2.2.2.1, y1.2.2.2.2.2.1, ([] : List vag), ([] : List vaa), y1.2.2.2.2.2.2.1, y1.2.2.2.2.2.2.2) (Sum.elim (fun z4 =>
 let z4h := z4.2.2.2.2.2.2.2.2
 let z4hh := z4h.2.2.2.2.2.2.2.2
 let z4hhh := z4hh.2.2.2.2.2.2.2.2
 k (z4h.2.2.2.2.1, z4h.2.2.2.2.2.1, z4h.2.2.2.2.2.2.1, z4h.2.2.2.2.2.2.2.1, z4hh.1, z4hh.2.1, z4.1, z4hhh.1, z4hhh.2)) (fun z5 =>
 let z5h := z5.2.2.2.2.2.2.2.2
 let z5hh := z5h.2.2.2.2.2.2.2.2
 let z5hhh := z5hh.2.2.2.2.2.2.2.2
 k (z5h.2.2.2.2.1, z5h.2.2.2.2.2.1, z5h.2.2.2.2.2.2.1, z5h.2.2.2.2.2.2.2.1, z5hh.1, z5hh.2.1, z5.1, z5hhh.1, z5hhh.2.1))))))
def vuj := shut v3b
theorem v8y : vuj = v3b := vah _
instance n07n_p (a0 : dTxn) (a1 : vaa) : ParC (vuj a0 a1) := by rw [v8y]; unfold v3b; (try dsimp only); infer_instance
def v2w (a0 : va8) (a1 : Int) (a2 : vaa) (k : q33T → Option Res) : Option Res :=
 vzr a0 (fun y1 =>
 vz9 a0 a1 (fun y2 =>
 bif (decide (y2 < 0)) then
 k (y1.1, y1.2.1, 1, y1.2.2.1, y1.2.2.2.1, y1.2.2.2.2.1, y1.2.2.2.2.2)
 else
 vmq a2 (fun y3 =>
 bif (!y3) then
 k (y1.1, y1.2.1, 2, y1.2.2.1, y1.2.2.2.1, y1.2.2.2.2.1, y1.2.2.2.2.2)
 else
 if 0 ≤ y2 ∧ y2 < (a0.2.length : Int) then
 vuj (rd (Ty.zero tTxn) a0.2 y2) a2 (fun y4 =>
 bif (!y4.2.2.2.2.2.2.1) then
 k (y1.1, y1.2.1, 3, y1.2.2.1, y1.2.2.2.1, y1.2.2.2.2.1, y1.2.2.2.2.2)
 else
 if 0 ≤ y2 ∧ y2 < (y1.2.2.2.2.2.length : Int) then
 k (y1.1, y1.2.1, 0, y1.2.2.1, y1.2.2.2.1, y1.2.2.2.2.1, (y1.2.2.2.2.2.set y2.toNat (y4.1, (y4.2.1, (y4.2.2.1, (y4.2.2.2.1, (y4.2.2.2.2.2.2.2.1, (y4.2.2.2.2.2.2.2.2, (y4.2.2.2.2.1, y4.2.2.2.2.2.1)))))))))
 else none)
 else none)))
def vop := shut v2w
theorem wb1 : vop = v2w := vah _
instance n03n_p (a0 : va8) (a1 : Int) (a2 : vaa) : ParC (vop a0 a1 a2) := by rw [wb1]; unfold v2w; (try dsimp only); infer_instance
def v25 (a0 : vac) (a1 : vac) (k : Bool → Option Res) : Option Res :=
 bif (!(vas a0.1 a1.1)) then
 k false
 else
 bif (!(vas a0.2.1 a1.2.1)) then
 k false
 else
 bif (!(a0.2.2.1 == a1.2.2.1)) then
 k false
 else
 bif (a0.2.2.2 != a1.2.2.2) then
 k false
 else
 k true
def vvu := shut v25
theorem wbu : vvu = v25 := vah _
instance n22n_p (a0 : vac) (a1 : vac) : ParC (vvu a0 a1) := by rw [wbu]; unfold v25; (try dsimp only); infer_instance
def vjt (x : q8T) (k : q8T ⊕ (q8T ⊕ q8T) → Option Res) : Option Res :=
 bif (decide (x.2.2.2 < (x.1.length : Int))) then
 if 0 ≤ x.2.2.2 ∧ x.2.2.2 < (x.1.length : Int) then
 if 0 ≤ x.2.2.2 ∧ x.2.2.2 < (x.2.1.length : Int) then
 vvu (rd (Ty.zero tVersion) x.1 x.2.2.2) (rd (Ty.zero tVersion) x.2.1 x.2.2.2) (fun y3 =>
 bif (!y3) then
 k (.inr (.inl (x.1, x.2.1, false, x.2.2.2)))
 else
 k (.inl (x.1, x.2.1, x.2.2.1, (IntKind.wrap .i64 (x.2.2.2 + 1)))))
 else none
 else none
 else
 k (.inr (.inr (x.1, x.2.1, x.2.2.1, x.2.2.2)))
instance n23n_bp0 (x : q8T) : ParC (vjt x) := by unfold vjt; (try dsimp only); infer_instance
def v3s (a0 : (List vac)) (a1 : (List vac)) (k : Bool → Option Res) : Option Res :=
 bif ((a0.length : Int) != (a1.length : Int)) then
 k false
 else
 vae vjt Fuel (a0, a1, false, 0) (Sum.elim (fun z1 =>
 k z1.2.2.1) (fun _ =>
 k true))
def vva := shut v3s
theorem wbg : vva = v3s := vah _
instance n23n_p (a0 : (List vac)) (a1 : (List vac)) : ParC (vva a0 a1) := by rw [wbg]; unfold v3s; (try dsimp only); infer_instance
def v3v (a0 : vag) (a1 : vag) (k : Bool → Option Res) : Option Res :=
 bif (!(vas a0.1 a1.1)) then
 k false
 else
 bif (!(vas a0.2 a1.2)) then
 k false
 else
 k true
def vu8 := shut v3v
theorem v70 : vu8 = v3v := vah _
instance n18n_p (a0 : vag) (a1 : vag) : ParC (vu8 a0 a1) := by rw [v70]; unfold v3v; (try dsimp only); infer_instance
def vj7 (x : q0T) (k : q0T ⊕ (q0T ⊕ q0T) → Option Res) : Option Res :=
 bif (decide (x.2.2.2 < (x.1.length : Int))) then
 if 0 ≤ x.2.2.2 ∧ x.2.2.2 < (x.1.length : Int) then
 if 0 ≤ x.2.2.2 ∧ x.2.2.2 < (x.2.1.length : Int) then
 vu8 (rd (Ty.zero tRange) x.1 x.2.2.2) (rd (Ty.zero tRange) x.2.1 x.2.2.2) (fun y3 =>
 bif (!y3) then
 k (.inr (.inl (x.1, x.2.1, false, x.2.2.2)))
 else
 k (.inl (x.1, x.2.1, x.2.2.1, (IntKind.wrap .i64 (x.2.2.2 + 1)))))
 else none
 else none
 else
 k (.inr (.inr (x.1, x.2.1, x.2.2.1, x.2.2.2)))
instance n19n_bp0 (x : q0T) : ParC (vj7 x) := by unfold vj7; (try dsimp only); infer_instance
def v3t (a0 : (List vag)) (a1 : (List vag)) (k : Bool → Option Res) : Option Res :=
 bif ((a0.length : Int) != (a1.length : Int)) then
 k false
 else
 vae vj7 Fuel (a0, a1, false, 0) (Sum.elim (fun z1 =>
 k z1.2.2.1) (fun _ =>
 k true))
def vtt := shut v3t
theorem v80 : vtt = v3t := vah _
instance n19n_p (a0 : (List vag)) (a1 : (List vag)) : ParC (vtt a0 a1) := by rw [v80]; unfold v3t; (try dsimp only); infer_instance
def v5h (a0 : vaa) (a1 : vaa) (k : Bool → Option Res) : Option Res :=
 bif (!(vas a0.1 a1.1)) then
 k false
 else
 bif (!(vas a0.2.1 a1.2.1)) then
 k false
 else
 bif (!(a0.2.2 == a1.2.2)) then
 k false
 else
 k true
def vuo := shut v5h
theorem v7w : vuo = v5h := vah _
instance n24n_p (a0 : vaa) (a1 : vaa) : ParC (vuo a0 a1) := by rw [v7w]; unfold v5h; (try dsimp only); infer_instance
def vkc (x : q11T) (k : q11T ⊕ (q11T ⊕ q11T) → Option Res) : Option Res :=
 bif (decide (x.2.2.2 < (x.1.length : Int))) then
 if 0 ≤ x.2.2.2 ∧ x.2.2.2 < (x.1.length : Int) then
 if 0 ≤ x.2.2.2 ∧ x.2.2.2 < (x.2.1.length : Int) then
 vuo (rd (Ty.zero tWrite) x.1 x.2.2.2) (rd (Ty.zero tWrite) x.2.1 x.2.2.2) (fun y3 =>
 bif (!y3) then
 k (.inr (.inl (x.1, x.2.1, false, x.2.2.2)))
 else
 k (.inl (x.1, x.2.1, x.2.2.1, (IntKind.wrap .i64 (x.2.2.2 + 1)))))
 else none
 else none
 else
 k (.inr (.inr (x.1, x.2.1, x.2.2.1, x.2.2.2)))
instance n25n_bp0 (x : q11T) : ParC (vkc x) := by unfold vkc; (try dsimp only); infer_instance
def v46 (a0 : (List vaa)) (a1 : (List vaa)) (k : Bool → Option Res) : Option Res :=
 bif ((a0.length : Int) != (a1.length : Int)) then
 k false
 else
 vae vkc Fuel (a0, a1, false, 0) (Sum.elim (fun z1 =>
 k z1.2.2.1) (fun _ =>
 k true))
def vvk := shut v46
theorem v8u : vvk = v46 := vah _
instance n25n_p (a0 : (List vaa)) (a1 : (List vaa)) : ParC (vvk a0 a1) := by rw [v8u]; unfold v46; (try dsimp only); infer_instance
def v2s (a0 : dTxn) (a1 : dTxn) (k : Bool → Option Res) : Option Res :=
 bif (a0.1 != a1.1) then
 k false
 else
 bif (a0.2.1 != a1.2.1) then
 k false
 else
 bif (a0.2.2.1 != a1.2.2.1) then
 k false
 else
 bif (a0.2.2.2.1 != a1.2.2.2.1) then
 k false
 else
 vtt a0.2.2.2.2.1 a1.2.2.2.2.1 (fun y1 =>
 bif (!y1) then
 k false
 else
 vvk a0.2.2.2.2.2.1 a1.2.2.2.2.2.1 (fun y2 =>
 bif (!y2) then
 k false
 else
 bif (!(a0.2.2.2.2.2.2.1 == a1.2.2.2.2.2.2.1)) then
 k false
 else
 bif (!(vas a0.2.2.2.2.2.2.2 a1.2.2.2.2.2.2.2)) then
 k false
 else
 k true))
def vrg := shut v2s
theorem wb2 : vrg = v2s := vah _
instance n20n_p (a0 : dTxn) (a1 : dTxn) : ParC (vrg a0 a1) := by rw [wb2]; unfold v2s; (try dsimp only); infer_instance
def vi8 (x : q3T) (k : q3T ⊕ (q3T ⊕ q3T) → Option Res) : Option Res :=
 bif (decide (x.2.2.2 < (x.1.length : Int))) then
 if 0 ≤ x.2.2.2 ∧ x.2.2.2 < (x.1.length : Int) then
 if 0 ≤ x.2.2.2 ∧ x.2.2.2 < (x.2.1.length : Int) then
 vrg (rd (Ty.zero tTxn) x.1 x.2.2.2) (rd (Ty.zero tTxn) x.2.1 x.2.2.2) (fun y3 =>
 bif (!y3) then
 k (.inr (.inl (x.1, x.2.1, false, x.2.2.2)))
 else
 k (.inl (x.1, x.2.1, x.2.2.1, (IntKind.wrap .i64 (x.2.2.2 + 1)))))
 else none
 else none
 else
 k (.inr (.inr (x.1, x.2.1, x.2.2.1, x.2.2.2)))
instance n21n_bp0 (x : q3T) : ParC (vi8 x) := by unfold vi8; (try dsimp only); infer_instance
def v4t (a0 : (List dTxn)) (a1 : (List dTxn)) (k : Bool → Option Res) : Option Res :=
 bif ((a0.length : Int) != (a1.length : Int)) then
 k false
 else
 vae vi8 Fuel (a0, a1, false, 0) (Sum.elim (fun z1 =>
 k z1.2.2.1) (fun _ =>
 k true))
def vm6 := shut v4t
theorem v7y : vm6 = v4t := vah _
instance n21n_p (a0 : (List dTxn)) (a1 : (List dTxn)) : ParC (vm6 a0 a1) := by rw [v7y]; unfold v4t; (try dsimp only); infer_instance
def vyy (a0 : vk6) (a1 : vk6) (k : Bool → Option Res) : Option Res :=
 vva a0.1 a1.1 (fun y1 =>
 bif (!y1) then
 k false
 else
 vm6 a0.2.1 a1.2.1 (fun y2 =>
 bif (!y2) then
 k false
 else
 vm6 a0.2.2.1 a1.2.2.1 (fun y3 =>
 bif (!y3) then
 k false
 else
 bif (a0.2.2.2.1 != a1.2.2.2.1) then
 k false
 else
 bif (a0.2.2.2.2 != a1.2.2.2.2) then
 k false
 else
 k true)))
def vt5 := shut vyy
theorem v4h : vt5 = vyy := vah _
instance n16n_p (a0 : vk6) (a1 : vk6) : ParC (vt5 a0 a1) := by rw [v4h]; unfold vyy; (try dsimp only); infer_instance
def vzf (a0 : va8) (a1 : va8) (k : Bool → Option Res) : Option Res :=
 vt5 a0.1 a1.1 (fun y1 =>
 bif (!y1) then
 k false
 else
 vm6 a0.2 a1.2 (fun y2 =>
 bif (!y2) then
 k false
 else
 k true))
def vfl := shut vzf
theorem v3g : vfl = vzf := vah _
instance n17n_p (a0 : va8) (a1 : va8) : ParC (vfl a0 a1) := by rw [v3g]; unfold vzf; (try dsimp only); infer_instance
def vl6 (x : (Int × ByteArray)) (k : (Int × ByteArray) ⊕ (Int × ByteArray) → Option Res) : Option Res :=
 bif (decide (x.1 > 0)) then
 if (vmh [(IntKind.wrap .u8 (IntKind.wrap .i64 ((48 : Int) + (x.1.tmod (10 : Int)))))]).size + x.2.size ≤ 1099511627776 then
 k (.inl ((IntKind.wrap .i64 (x.1.tdiv (10 : Int))), ((vmh [(IntKind.wrap .u8 (IntKind.wrap .i64 ((48 : Int) + (x.1.tmod (10 : Int)))))]) ++ x.2)))
 else none
 else
 k (.inr (x.1, x.2))
instance n35n_bp0 (x : (Int × ByteArray)) : ParC (vl6 x) := by unfold vl6; (try dsimp only); infer_instance
def v44 (a0 : Int) (k : ByteArray → Option Res) : Option Res :=
 bif (decide (a0 ≤ 0)) then
 k (⟨#[109, 48]⟩ : ByteArray)
 else
 vae vl6 Fuel (a0, (⟨#[]⟩ : ByteArray)) (fun z1 =>
 if (⟨#[109]⟩ : ByteArray).size + z1.2.size ≤ 1099511627776 then
 k ((⟨#[109]⟩ : ByteArray) ++ z1.2)
 else none)
def vb5 := shut v44
theorem v97 : vb5 = v44 := vah _
instance n35n_p (a0 : Int) : ParC (vb5 a0) := by rw [v97]; unfold v44; (try dsimp only); infer_instance
def vji (x : (Int × Int × (List vac))) (k : (Int × Int × (List vac)) ⊕ (Int × Int × (List vac)) → Option Res) : Option Res :=
 let t0 := (x.2.2.getD x.2.1.toNat (Ty.zero tVersion))
 let t1 := (IntKind.wrap .i64 ((IntKind.wrap .i64 (x.1 + (1 : Int))) + (1 : Int)))
 let t2 := ((t1.tmod (3 : Int)) == (0 : Int))
 bif (decide (x.2.1 < (x.2.2.length : Int))) then
 vb5 x.1 (fun y2 =>
 if 0 ≤ x.2.1 ∧ x.2.1 < (x.2.2.length : Int) then
 vb5 (IntKind.wrap .i64 (x.1 + 1)) (fun y3 =>
 if 0 ≤ x.2.1 ∧ x.2.1 < ((x.2.2.set x.2.1.toNat (y2, t0.2)).length : Int) then
 if 0 ≤ x.2.1 ∧ x.2.1 < (((x.2.2.set x.2.1.toNat (y2, t0.2)).set x.2.1.toNat (((x.2.2.set x.2.1.toNat (y2, t0.2)).getD x.2.1.toNat (Ty.zero tVersion)).1, (y3, ((x.2.2.set x.2.1.toNat (y2, t0.2)).getD x.2.1.toNat (Ty.zero tVersion)).2.2))).length : Int) then
 if 0 ≤ x.2.1 ∧ x.2.1 < ((((x.2.2.set x.2.1.toNat (y2, t0.2)).set x.2.1.toNat (((x.2.2.set x.2.1.toNat (y2, t0.2)).getD x.2.1.toNat (Ty.zero tVersion)).1, (y3, ((x.2.2.set x.2.1.toNat (y2, t0.2)).getD x.2.1.toNat (Ty.zero tVersion)).2.2))).set x.2.1.toNat ((((x.2.2.set x.2.1.toNat (y2, t0.2)).set x.2.1.toNat (((x.2.2.set x.2.1.toNat (y2, t0.2)).getD x.2.1.toNat (Ty.zero tVersion)).1, (y3, ((x.2.2.set x.2.1.toNat (y2, t0.2)).getD x.2.1.toNat (Ty.zero tVersion)).2.2))).getD x.2.1.toNat (Ty.zero tVersion)).1, ((((x.2.2.set x.2.1.toNat (y2, t0.2)).set x.2.1.toNat (((x.2.2.set x.2.1.toNat (y2, t0.2)).getD x.2.1.toNat (Ty.zero tVersion)).1, (y3, ((x.2.2.set x.2.1.toNat (y2, t0.2)).getD x.2.1.toNat (Ty.zero tVersion)).2.2))).getD x.2.1.toNat (Ty.zero tVersion)).2.1, (t2, (((x.2.2.set x.2.1.toNat (y2, t0.2)).set x.2.1.toNat (((x.2.2.set x.2.1.toNat (y2, t0.2)).getD x.2.1.toNat (Ty.zero tVersion)).1, (y3, ((x.2.2.set x.2.1.toNat (y2, t0.2)).getD x.2.1.toNat (Ty.zero tVersion)).2.2))).getD x.2.1.toNat (Ty.zero tVersion)).2.2.2)))).length : Int) then
 k (.inl ((IntKind.wrap .i64 ((IntKind.wrap .i64 (t1 + 1)) + 1)), (IntKind.wrap .i64 (x.2.1 + 1)), ((((x.2.2.set x.2.1.toNat (y2, t0.2)).set x.2.1.toNat (((x.2.2.set x.2.1.toNat (y2, t0.2)).getD x.2.1.toNat (Ty.zero tVersion)).1, (y3, ((x.2.2.set x.2.1.toNat (y2, t0.2)).getD x.2.1.toNat (Ty.zero tVersion)).2.2))).set x.2.1.toNat ((((x.2.2.set x.2.1.toNat (y2, t0.2)).set x.2.1.toNat (((x.2.2.set x.2.1.toNat (y2, t0.2)).getD x.2.1.toNat (Ty.zero tVersion)).1, (y3, ((x.2.2.set x.2.1.toNat (y2, t0.2)).getD x.2.1.toNat (Ty.zero tVersion)).2.2))).getD x.2.1.toNat (Ty.zero tVersion)).1, ((((x.2.2.set x.2.1.toNat (y2, t0.2)).set x.2.1.toNat (((x.2.2.set x.2.1.toNat (y2, t0.2)).getD x.2.1.toNat (Ty.zero tVersion)).1, (y3, ((x.2.2.set x.2.1.toNat (y2, t0.2)).getD x.2.1.toNat (Ty.zero tVersion)).2.2))).getD x.2.1.toNat (Ty.zero tVersion)).2.1, (t2, (((x.2.2.set x.2.1.toNat (y2, t0.2)).set x.2.1.toNat (((x.2.2.set x.2.1.toNat (y2, t0.2)).getD x.2.1.toNat (Ty.zero tVersion)).1, (y3, ((x.2.2.set x.2.1.toNat (y2, t0.2)).getD x.2.1.toNat (Ty.zero tVersion)).2.2))).getD x.2.1.toNat (Ty.zero tVersion)).2.2.2)))).set x.2.1.toNat (((((x.2.2.set x.2.1.toNat (y2, t0.2)).set x.2.1.toNat (((x.2.2.set x.2.1.toNat (y2, t0.2)).getD x.2.1.toNat (Ty.zero tVersion)).1, (y3, ((x.2.2.set x.2.1.toNat (y2, t0.2)).getD x.2.1.toNat (Ty.zero tVersion)).2.2))).set x.2.1.toNat ((((x.2.2.set x.2.1.toNat (y2, t0.2)).set x.2.1.toNat (((x.2.2.set x.2.1.toNat (y2, t0.2)).getD x.2.1.toNat (Ty.zero tVersion)).1, (y3, ((x.2.2.set x.2.1.toNat (y2, t0.2)).getD x.2.1.toNat (Ty.zero tVersion)).2.2))).getD x.2.1.toNat (Ty.zero tVersion)).1, ((((x.2.2.set x.2.1.toNat (y2, t0.2)).set x.2.1.toNat (((x.2.2.set x.2.1.toNat (y2, t0.2)).getD x.2.1.toNat (Ty.zero tVersion)).1, (y3, ((x.2.2.set x.2.1.toNat (y2, t0.2)).getD x.2.1.toNat (Ty.zero tVersion)).2.2))).getD x.2.1.toNat (Ty.zero tVersion)).2.1, (t2, (((x.2.2.set x.2.1.toNat (y2, t0.2)).set x.2.1.toNat (((x.2.2.set x.2.1.toNat (y2, t0.2)).getD x.2.1.toNat (Ty.zero tVersion)).1, (y3, ((x.2.2.set x.2.1.toNat (y2, t0.2)).getD x.2.1.toNat (Ty.zero tVersion)).2.2))).getD x.2.1.toNat (Ty.zero tVersion)).2.2.2)))).getD x.2.1.toNat (Ty.zero tVersion)).1, (((((x.2.2.set x.2.1.toNat (y2, t0.2)).set x.2.1.toNat (((x.2.2.set x.2.1.toNat (y2, t0.2)).getD x.2.1.toNat (Ty.zero tVersion)).1, (y3, ((x.2.2.set x.2.1.toNat (y2, t0.2)).getD x.2.1.toNat (Ty.zero tVersion)).2.2))).set x.2.1.toNat ((((x.2.2.set x.2.1.toNat (y2, t0.2)).set x.2.1.toNat (((x.2.2.set x.2.1.toNat (y2, t0.2)).getD x.2.1.toNat (Ty.zero tVersion)).1, (y3, ((x.2.2.set x.2.1.toNat (y2, t0.2)).getD x.2.1.toNat (Ty.zero tVersion)).2.2))).getD x.2.1.toNat (Ty.zero tVersion)).1, ((((x.2.2.set x.2.1.toNat (y2, t0.2)).set x.2.1.toNat (((x.2.2.set x.2.1.toNat (y2, t0.2)).getD x.2.1.toNat (Ty.zero tVersion)).1, (y3, ((x.2.2.set x.2.1.toNat (y2, t0.2)).getD x.2.1.toNat (Ty.zero tVersion)).2.2))).getD x.2.1.toNat (Ty.zero tVersion)).2.1, (t2, (((x.2.2.set x.2.1.toNat (y2, t0.2)).set x.2.1.toNat (((x.2.2.set x.2.1.toNat (y2, t0.2)).getD x.2.1.toNat (Ty.zero tVersion)).1, (y3, ((x.2.2.set x.2.1.toNat (y2, t0.2)).getD x.2.1.toNat (Ty.zero tVersion)).2.2))).getD x.2.1.toNat (Ty.zero tVersion)).2.2.2)))).getD x.2.1.toNat (Ty.zero tVersion)).2.1, (((((x.2.2.set x.2.1.toNat (y2, t0.2)).set x.2.1.toNat (((x.2.2.set x.2.1.toNat (y2, t0.2)).getD x.2.1.toNat (Ty.zero tVersion)).1, (y3, ((x.2.2.set x.2.1.toNat (y2, t0.2)).getD x.2.1.toNat (Ty.zero tVersion)).2.2))).set x.2.1.toNat ((((x.2.2.set x.2.1.toNat (y2, t0.2)).set x.2.1.toNat (((x.2.2.set x.2.1.toNat (y2, t0.2)).getD x.2.1.toNat (Ty.zero tVersion)).1, (y3, ((x.2.2.set x.2.1.toNat (y2, t0.2)).getD x.2.1.toNat (Ty.zero tVersion)).2.2))).getD x.2.1.toNat (Ty.zero tVersion)).1, ((((x.2.2.set x.2.1.toNat (y2, t0.2)).set x.2.1.toNat (((x.2.2.set x.2.1.toNat (y2, t0.2)).getD x.2.1.toNat (Ty.zero tVersion)).1, (y3, ((x.2.2.set x.2.1.toNat (y2, t0.2)).getD x.2.1.toNat (Ty.zero tVersion)).2.2))).getD x.2.1.toNat (Ty.zero tVersion)).2.1, (t2, (((x.2.2.set x.2.1.toNat (y2, t0.2)).set x.2.1.toNat (((x.2.2.set x.2.1.toNat (y2, t0.2)).getD x.2.1.toNat (Ty.zero tVersion)).1, (y3, ((x.2.2.set x.2.1.toNat (y2, t0.2)).getD x.2.1.toNat (Ty.zero tVersion)).2.2))).getD x.2.1.toNat (Ty.zero tVersion)).2.2.2)))).getD x.2.1.toNat (Ty.zero tVersion)).2.2.1, (IntKind.wrap .i64 (t1 + 1))))))))
 else none
 else none
 else none)
 else none)
 else
 k (.inr (x.1, x.2.1, x.2.2))
instance n37n_bp0 (x : (Int × Int × (List vac))) : ParC (vji x) := by unfold vji; (try dsimp only); infer_instance
def v2t (a0 : Int) (a1 : (List vac)) (k : (Int × (List vac)) → Option Res) : Option Res :=
 vae vji Fuel (a0, 0, a1) (fun z1 =>
 k (z1.1, z1.2.2))
def vy7 := shut v2t
theorem v99 : vy7 = v2t := vah _
instance n37n_p (a0 : Int) (a1 : (List vac)) : ParC (vy7 a0 a1) := by rw [v99]; unfold v2t; (try dsimp only); infer_instance
def vlm (x : (Int × Int × (List vag))) (k : (Int × Int × (List vag)) ⊕ (Int × Int × (List vag)) → Option Res) : Option Res :=
 bif (decide (x.2.1 < (x.2.2.length : Int))) then
 vb5 x.1 (fun y2 =>
 if 0 ≤ x.2.1 ∧ x.2.1 < (x.2.2.length : Int) then
 vb5 (IntKind.wrap .i64 (x.1 + 1)) (fun y3 =>
 if 0 ≤ x.2.1 ∧ x.2.1 < ((x.2.2.set x.2.1.toNat (y2, (x.2.2.getD x.2.1.toNat (Ty.zero tRange)).2)).length : Int) then
 k (.inl ((IntKind.wrap .i64 ((IntKind.wrap .i64 (x.1 + 1)) + 1)), (IntKind.wrap .i64 (x.2.1 + 1)), ((x.2.2.set x.2.1.toNat (y2, (x.2.2.getD x.2.1.toNat (Ty.zero tRange)).2)).set x.2.1.toNat (((x.2.2.set x.2.1.toNat (y2, (x.2.2.getD x.2.1.toNat (Ty.zero tRange)).2)).getD x.2.1.toNat (Ty.zero tRange)).1, y3))))
 else none)
 else none)
 else
 k (.inr (x.1, x.2.1, x.2.2))
instance n34n_bp0 (x : (Int × Int × (List vag))) : ParC (vlm x) := by unfold vlm; (try dsimp only); infer_instance
def v5p (a0 : Int) (a1 : (List vag)) (k : (Int × (List vag)) → Option Res) : Option Res :=
 vae vlm Fuel (a0, 0, a1) (fun z1 =>
 k (z1.1, z1.2.2))
def vy9 := shut v5p
theorem wad : vy9 = v5p := vah _
instance n34n_p (a0 : Int) (a1 : (List vag)) : ParC (vy9 a0 a1) := by rw [wad]; unfold v5p; (try dsimp only); infer_instance
def vl2 (x : (Int × Int × (List vaa))) (k : (Int × Int × (List vaa)) ⊕ (Int × Int × (List vaa)) → Option Res) : Option Res :=
 let t0 := (x.2.2.getD x.2.1.toNat (Ty.zero tWrite))
 bif (decide (x.2.1 < (x.2.2.length : Int))) then
 vb5 x.1 (fun y2 =>
 if 0 ≤ x.2.1 ∧ x.2.1 < (x.2.2.length : Int) then
 vb5 (IntKind.wrap .i64 (x.1 + 1)) (fun y3 =>
 if 0 ≤ x.2.1 ∧ x.2.1 < ((x.2.2.set x.2.1.toNat (y2, t0.2)).length : Int) then
 if 0 ≤ x.2.1 ∧ x.2.1 < (((x.2.2.set x.2.1.toNat (y2, t0.2)).set x.2.1.toNat (((x.2.2.set x.2.1.toNat (y2, t0.2)).getD x.2.1.toNat (Ty.zero tWrite)).1, (y3, ((x.2.2.set x.2.1.toNat (y2, t0.2)).getD x.2.1.toNat (Ty.zero tWrite)).2.2))).length : Int) then
 k (.inl ((IntKind.wrap .i64 ((IntKind.wrap .i64 ((IntKind.wrap .i64 (x.1 + 1)) + 1)) + 1)), (IntKind.wrap .i64 (x.2.1 + 1)), (((x.2.2.set x.2.1.toNat (y2, t0.2)).set x.2.1.toNat (((x.2.2.set x.2.1.toNat (y2, t0.2)).getD x.2.1.toNat (Ty.zero tWrite)).1, (y3, ((x.2.2.set x.2.1.toNat (y2, t0.2)).getD x.2.1.toNat (Ty.zero tWrite)).2.2))).set x.2.1.toNat ((((x.2.2.set x.2.1.toNat (y2, t0.2)).set x.2.1.toNat (((x.2.2.set x.2.1.toNat (y2, t0.2)).getD x.2.1.toNat (Ty.zero tWrite)).1, (y3, ((x.2.2.set x.2.1.toNat (y2, t0.2)).getD x.2.1.toNat (Ty.zero tWrite)).2.2))).getD x.2.1.toNat (Ty.zero tWrite)).1, ((((x.2.2.set x.2.1.toNat (y2, t0.2)).set x.2.1.toNat (((x.2.2.set x.2.1.toNat (y2, t0.2)).getD x.2.1.toNat (Ty.zero tWrite)).1, (y3, ((x.2.2.set x.2.1.toNat (y2, t0.2)).getD x.2.1.toNat (Ty.zero tWrite)).2.2))).getD x.2.1.toNat (Ty.zero tWrite)).2.1, (((IntKind.wrap .i64 ((IntKind.wrap .i64 (x.1 + 1)) + 1)).tmod (3 : Int)) == (0 : Int)))))))
 else none
 else none)
 else none)
 else
 k (.inr (x.1, x.2.1, x.2.2))
instance n38n_bp0 (x : (Int × Int × (List vaa))) : ParC (vl2 x) := by unfold vl2; (try dsimp only); infer_instance
def v3e (a0 : Int) (a1 : (List vaa)) (k : (Int × (List vaa)) → Option Res) : Option Res :=
 vae vl2 Fuel (a0, 0, a1) (fun z1 =>
 k (z1.1, z1.2.2))
def vz7 := shut v3e
theorem wbr : vz7 = v3e := vah _
instance n38n_p (a0 : Int) (a1 : (List vaa)) : ParC (vz7 a0 a1) := by rw [wbr]; unfold v3e; (try dsimp only); infer_instance
def vde (x : (Int × Int × (List dTxn))) (k : (Int × Int × (List dTxn)) → Option Res) : Option Res :=
 k (x.1, (IntKind.wrap .i64 (x.2.1 + 1)), x.2.2)
instance n36n_jp5000003 (x : (Int × Int × (List dTxn))) : ParC (vde x) := by unfold vde; (try dsimp only); infer_instance
def vdk (x : (Int × Int × (List dTxn))) (k : (Int × Int × (List dTxn)) → Option Res) : Option Res :=
 k ((IntKind.wrap .i64 (x.1 + 1)), x.2.1, x.2.2)
instance n36n_jp5000017 (x : (Int × Int × (List dTxn))) : ParC (vdk x) := by unfold vdk; (try dsimp only); infer_instance
def vdm (x : (Int × Int × (List dTxn))) (k : (Int × Int × (List dTxn)) → Option Res) : Option Res :=
 vb5 (IntKind.wrap .i64 (x.1 + 1)) (fun y10 =>
 if 0 ≤ x.2.1 ∧ x.2.1 < (x.2.2.length : Int) then
 vdk ((IntKind.wrap .i64 (x.1 + 1)), x.2.1, (x.2.2.set x.2.1.toNat ((x.2.2.getD x.2.1.toNat (Ty.zero tTxn)).1, ((x.2.2.getD x.2.1.toNat (Ty.zero tTxn)).2.1, ((x.2.2.getD x.2.1.toNat (Ty.zero tTxn)).2.2.1, ((x.2.2.getD x.2.1.toNat (Ty.zero tTxn)).2.2.2.1, ((x.2.2.getD x.2.1.toNat (Ty.zero tTxn)).2.2.2.2.1, ((x.2.2.getD x.2.1.toNat (Ty.zero tTxn)).2.2.2.2.2.1, ((x.2.2.getD x.2.1.toNat (Ty.zero tTxn)).2.2.2.2.2.2.1, y10))))))))) (fun z11 =>
 k (z11.1, z11.2.1, z11.2.2))
 else none)
instance n36n_jp5000015 (x : (Int × Int × (List dTxn))) : ParC (vdm x) := by unfold vdm; (try dsimp only); infer_instance
def vdo (x : (Int × Int × (List dTxn))) (k : (Int × Int × (List dTxn)) → Option Res) : Option Res :=
 let t0 := (x.2.2.getD x.2.1.toNat (Ty.zero tTxn))
 if 0 ≤ x.2.1 ∧ x.2.1 < (x.2.2.length : Int) then
 vy9 (IntKind.wrap .i64 (x.1 + 1)) (t0.2.2.2.2.1) (fun y7 =>
 if 0 ≤ x.2.1 ∧ x.2.1 < ((x.2.2.set x.2.1.toNat (t0.1, (t0.2.1, (t0.2.2.1, (t0.2.2.2.1, (y7.2, t0.2.2.2.2.2)))))).length : Int) then
 vz7 y7.1 (((x.2.2.set x.2.1.toNat (t0.1, (t0.2.1, (t0.2.2.1, (t0.2.2.2.1, (y7.2, t0.2.2.2.2.2)))))).getD x.2.1.toNat (Ty.zero tTxn)).2.2.2.2.2.1) (fun y8 =>
 if 0 ≤ x.2.1 ∧ x.2.1 < (((x.2.2.set x.2.1.toNat (t0.1, (t0.2.1, (t0.2.2.1, (t0.2.2.2.1, (y7.2, t0.2.2.2.2.2)))))).set x.2.1.toNat (((x.2.2.set x.2.1.toNat (t0.1, (t0.2.1, (t0.2.2.1, (t0.2.2.2.1, (y7.2, t0.2.2.2.2.2)))))).getD x.2.1.toNat (Ty.zero tTxn)).1, (((x.2.2.set x.2.1.toNat (t0.1, (t0.2.1, (t0.2.2.1, (t0.2.2.2.1, (y7.2, t0.2.2.2.2.2)))))).getD x.2.1.toNat (Ty.zero tTxn)).2.1, (((x.2.2.set x.2.1.toNat (t0.1, (t0.2.1, (t0.2.2.1, (t0.2.2.2.1, (y7.2, t0.2.2.2.2.2)))))).getD x.2.1.toNat (Ty.zero tTxn)).2.2.1, (((x.2.2.set x.2.1.toNat (t0.1, (t0.2.1, (t0.2.2.1, (t0.2.2.2.1, (y7.2, t0.2.2.2.2.2)))))).getD x.2.1.toNat (Ty.zero tTxn)).2.2.2.1, (((x.2.2.set x.2.1.toNat (t0.1, (t0.2.1, (t0.2.2.1, (t0.2.2.2.1, (y7.2, t0.2.2.2.2.2)))))).getD x.2.1.toNat (Ty.zero tTxn)).2.2.2.2.1, (y8.2, ((x.2.2.set x.2.1.toNat (t0.1, (t0.2.1, (t0.2.2.1, (t0.2.2.2.1, (y7.2, t0.2.2.2.2.2)))))).getD x.2.1.toNat (Ty.zero tTxn)).2.2.2.2.2.2))))))).length : Int) then
 vdm (y8.1, x.2.1, (((x.2.2.set x.2.1.toNat (t0.1, (t0.2.1, (t0.2.2.1, (t0.2.2.2.1, (y7.2, t0.2.2.2.2.2)))))).set x.2.1.toNat (((x.2.2.set x.2.1.toNat (t0.1, (t0.2.1, (t0.2.2.1, (t0.2.2.2.1, (y7.2, t0.2.2.2.2.2)))))).getD x.2.1.toNat (Ty.zero tTxn)).1, (((x.2.2.set x.2.1.toNat (t0.1, (t0.2.1, (t0.2.2.1, (t0.2.2.2.1, (y7.2, t0.2.2.2.2.2)))))).getD x.2.1.toNat (Ty.zero tTxn)).2.1, (((x.2.2.set x.2.1.toNat (t0.1, (t0.2.1, (t0.2.2.1, (t0.2.2.2.1, (y7.2, t0.2.2.2.2.2)))))).getD x.2.1.toNat (Ty.zero tTxn)).2.2.1, (((x.2.2.set x.2.1.toNat (t0.1, (t0.2.1, (t0.2.2.1, (t0.2.2.2.1, (y7.2, t0.2.2.2.2.2)))))).getD x.2.1.toNat (Ty.zero tTxn)).2.2.2.1, (((x.2.2.set x.2.1.toNat (t0.1, (t0.2.1, (t0.2.2.1, (t0.2.2.2.1, (y7.2, t0.2.2.2.2.2)))))).getD x.2.1.toNat (Ty.zero tTxn)).2.2.2.2.1, (y8.2, ((x.2.2.set x.2.1.toNat (t0.1, (t0.2.1, (t0.2.2.1, (t0.2.2.2.1, (y7.2, t0.2.2.2.2.2)))))).getD x.2.1.toNat (Ty.zero tTxn)).2.2.2.2.2.2))))))).set x.2.1.toNat ((((x.2.2.set x.2.1.toNat (t0.1, (t0.2.1, (t0.2.2.1, (t0.2.2.2.1, (y7.2, t0.2.2.2.2.2)))))).set x.2.1.toNat (((x.2.2.set x.2.1.toNat (t0.1, (t0.2.1, (t0.2.2.1, (t0.2.2.2.1, (y7.2, t0.2.2.2.2.2)))))).getD x.2.1.toNat (Ty.zero tTxn)).1, (((x.2.2.set x.2.1.toNat (t0.1, (t0.2.1, (t0.2.2.1, (t0.2.2.2.1, (y7.2, t0.2.2.2.2.2)))))).getD x.2.1.toNat (Ty.zero tTxn)).2.1, (((x.2.2.set x.2.1.toNat (t0.1, (t0.2.1, (t0.2.2.1, (t0.2.2.2.1, (y7.2, t0.2.2.2.2.2)))))).getD x.2.1.toNat (Ty.zero tTxn)).2.2.1, (((x.2.2.set x.2.1.toNat (t0.1, (t0.2.1, (t0.2.2.1, (t0.2.2.2.1, (y7.2, t0.2.2.2.2.2)))))).getD x.2.1.toNat (Ty.zero tTxn)).2.2.2.1, (((x.2.2.set x.2.1.toNat (t0.1, (t0.2.1, (t0.2.2.1, (t0.2.2.2.1, (y7.2, t0.2.2.2.2.2)))))).getD x.2.1.toNat (Ty.zero tTxn)).2.2.2.2.1, (y8.2, ((x.2.2.set x.2.1.toNat (t0.1, (t0.2.1, (t0.2.2.1, (t0.2.2.2.1, (y7.2, t0.2.2.2.2.2)))))).getD x.2.1.toNat (Ty.zero tTxn)).2.2.2.2.2.2))))))).getD x.2.1.toNat (Ty.zero tTxn)).1, ((((x.2.2.set x.2.1.toNat (t0.1, (t0.2.1, (t0.2.2.1, (t0.2.2.2.1, (y7.2, t0.2.2.2.2.2)))))).set x.2.1.toNat (((x.2.2.set x.2.1.toNat (t0.1, (t0.2.1, (t0.2.2.1, (t0.2.2.2.1, (y7.2, t0.2.2.2.2.2)))))).getD x.2.1.toNat (Ty.zero tTxn)).1, (((x.2.2.set x.2.1.toNat (t0.1, (t0.2.1, (t0.2.2.1, (t0.2.2.2.1, (y7.2, t0.2.2.2.2.2)))))).getD x.2.1.toNat (Ty.zero tTxn)).2.1, (((x.2.2.set x.2.1.toNat (t0.1, (t0.2.1, (t0.2.2.1, (t0.2.2.2.1, (y7.2, t0.2.2.2.2.2)))))).getD x.2.1.toNat (Ty.zero tTxn)).2.2.1, (((x.2.2.set x.2.1.toNat (t0.1, (t0.2.1, (t0.2.2.1, (t0.2.2.2.1, (y7.2, t0.2.2.2.2.2)))))).getD x.2.1.toNat (Ty.zero tTxn)).2.2.2.1, (((x.2.2.set x.2.1.toNat (t0.1, (t0.2.1, (t0.2.2.1, (t0.2.2.2.1, (y7.2, t0.2.2.2.2.2)))))).getD x.2.1.toNat (Ty.zero tTxn)).2.2.2.2.1, (y8.2, ((x.2.2.set x.2.1.toNat (t0.1, (t0.2.1, (t0.2.2.1, (t0.2.2.2.1, (y7.2, t0.2.2.2.2.2)))))).getD x.2.1.toNat (Ty.zero tTxn)).2.2.2.2.2.2))))))).getD x.2.1.toNat (Ty.zero tTxn)).2.1, ((((x.2.2.set x.2.1.toNat (t0.1, (t0.2.1, (t0.2.2.1, (t0.2.2.2.1, (y7.2, t0.2.2.2.2.2)))))).set x.2.1.toNat (((x.2.2.set x.2.1.toNat (t0.1, (t0.2.1, (t0.2.2.1, (t0.2.2.2.1, (y7.2, t0.2.2.2.2.2)))))).getD x.2.1.toNat (Ty.zero tTxn)).1, (((x.2.2.set x.2.1.toNat (t0.1, (t0.2.1, (t0.2.2.1, (t0.2.2.2.1, (y7.2, t0.2.2.2.2.2)))))).getD x.2.1.toNat (Ty.zero tTxn)).2.1, (((x.2.2.set x.2.1.toNat (t0.1, (t0.2.1, (t0.2.2.1, (t0.2.2.2.1, (y7.2, t0.2.2.2.2.2)))))).getD x.2.1.toNat (Ty.zero tTxn)).2.2.1, (((x.2.2.set x.2.1.toNat (t0.1, (t0.2.1, (t0.2.2.1, (t0.2.2.2.1, (y7.2, t0.2.2.2.2.2)))))).getD x.2.1.toNat (Ty.zero tTxn)).2.2.2.1, (((x.2.2.set x.2.1.toNat (t0.1, (t0.2.1, (t0.2.2.1, (t0.2.2.2.1, (y7.2, t0.2.2.2.2.2)))))).getD x.2.1.toNat (Ty.zero tTxn)).2.2.2.2.1, (y8.2, ((x.2.2.set x.2.1.toNat (t0.1, (t0.2.1, (t0.2.2.1, (t0.2.2.2.1, (y7.2, t0.2.2.2.2.2)))))).getD x.2.1.toNat (Ty.zero tTxn)).2.2.2.2.2.2))))))).getD x.2.1.toNat (Ty.zero tTxn)).2.2.1, ((((x.2.2.set x.2.1.toNat (t0.1, (t0.2.1, (t0.2.2.1, (t0.2.2.2.1, (y7.2, t0.2.2.2.2.2)))))).set x.2.1.toNat (((x.2.2.set x.2.1.toNat (t0.1, (t0.2.1, (t0.2.2.1, (t0.2.2.2.1, (y7.2, t0.2.2.2.2.2)))))).getD x.2.1.toNat (Ty.zero tTxn)).1, (((x.2.2.set x.2.1.toNat (t0.1, (t0.2.1, (t0.2.2.1, (t0.2.2.2.1, (y7.2, t0.2.2.2.2.2)))))).getD x.2.1.toNat (Ty.zero tTxn)).2.1, (((x.2.2.set x.2.1.toNat (t0.1, (t0.2.1, (t0.2.2.1, (t0.2.2.2.1, (y7.2, t0.2.2.2.2.2)))))).getD x.2.1.toNat (Ty.zero tTxn)).2.2.1, (((x.2.2.set x.2.1.toNat (t0.1, (t0.2.1, (t0.2.2.1, (t0.2.2.2.1, (y7.2, t0.2.2.2.2.2)))))).getD x.2.1.toNat (Ty.zero tTxn)).2.2.2.1, (((x.2.2.set x.2.1.toNat (t0.1, (t0.2.1, (t0.2.2.1, (t0.2.2.2.1, (y7.2, t0.2.2.2.2.2)))))).getD x.2.1.toNat (Ty.zero tTxn)).2.2.2.2.1, (y8.2, ((x.2.2.set x.2.1.toNat (t0.1, (t0.2.1, (t0.2.2.1, (t0.2.2.2.1, (y7.2, t0.2.2.2.2.2)))))).getD x.2.1.toNat (Ty.zero tTxn)).2.2.2.2.2.2))))))).getD x.2.1.toNat (Ty.zero tTxn)).2.2.2.1, ((((x.2.2.set x.2.1.toNat (t0.1, (t0.2.1, (t0.2.2.1, (t0.2.2.2.1, (y7.2, t0.2.2.2.2.2)))))).set x.2.1.toNat (((x.2.2.set x.2.1.toNat (t0.1, (t0.2.1, (t0.2.2.1, (t0.2.2.2.1, (y7.2, t0.2.2.2.2.2)))))).getD x.2.1.toNat (Ty.zero tTxn)).1, (((x.2.2.set x.2.1.toNat (t0.1, (t0.2.1, (t0.2.2.1, (t0.2.2.2.1, (y7.2, t0.2.2.2.2.2)))))).getD x.2.1.toNat (Ty.zero tTxn)).2.1, (((x.2.2.set x.2.1.toNat (t0.1, (t0.2.1, (t0.2.2.1, (t0.2.2.2.1, (y7.2, t0.2.2.2.2.2)))))).getD x.2.1.toNat (Ty.zero tTxn)).2.2.1, (((x.2.2.set x.2.1.toNat (t0.1, (t0.2.1, (t0.2.2.1, (t0.2.2.2.1, (y7.2, t0.2.2.2.2.2)))))).getD x.2.1.toNat (Ty.zero tTxn)).2.2.2.1, (((x.2.2.set x.2.1.toNat (t0.1, (t0.2.1, (t0.2.2.1, (t0.2.2.2.1, (y7.2, t0.2.2.2.2.2)))))).getD x.2.1.toNat (Ty.zero tTxn)).2.2.2.2.1, (y8.2, ((x.2.2.set x.2.1.toNat (t0.1, (t0.2.1, (t0.2.2.1, (t0.2.2.2.1, (y7.2, t0.2.2.2.2.2)))))).getD x.2.1.toNat (Ty.zero tTxn)).2.2.2.2.2.2))))))).getD x.2.1.toNat (Ty.zero tTxn)).2.2.2.2.1, ((((x.2.2.set x.2.1.toNat (t0.1, (t0.2.1, (t0.2.2.1, (t0.2.2.2.1, (y7.2, t0.2.2.2.2.2)))))).set x.2.1.toNat (((x.2.2.set x.2.1.toNat (t0.1, (t0.2.1, (t0.2.2.1, (t0.2.2.2.1, (y7.2, t0.2.2.2.2.2)))))).getD x.2.1.toNat (Ty.zero tTxn)).1, (((x.2.2.set x.2.1.toNat (t0.1, (t0.2.1, (t0.2.2.1, (t0.2.2.2.1, (y7.2, t0.2.2.2.2.2)))))).getD x.2.1.toNat (Ty.zero tTxn)).2.1, (((x.2.2.set x.2.1.toNat (t0.1, (t0.2.1, (t0.2.2.1, (t0.2.2.2.1, (y7.2, t0.2.2.2.2.2)))))).getD x.2.1.toNat (Ty.zero tTxn)).2.2.1, (((x.2.2.set x.2.1.toNat (t0.1, (t0.2.1, (t0.2.2.1, (t0.2.2.2.1, (y7.2, t0.2.2.2.2.2)))))).getD x.2.1.toNat (Ty.zero tTxn)).2.2.2.1, (((x.2.2.set x.2.1.toNat (t0.1, (t0.2.1, (t0.2.2.1, (t0.2.2.2.1, (y7.2, t0.2.2.2.2.2)))))).getD x.2.1.toNat (Ty.zero tTxn)).2.2.2.2.1, (y8.2, ((x.2.2.set x.2.1.toNat (t0.1, (t0.2.1, (t0.2.2.1, (t0.2.2.2.1, (y7.2, t0.2.2.2.2.2)))))).getD x.2.1.toNat (Ty.zero tTxn)).2.2.2.2.2.2))))))).getD x.2.1.toNat (Ty.zero tTxn)).2.2.2.2.2.1, (((y8.1.tmod (3 : Int)) == (0 : Int)), (((x.2.2.set x.2.1.toNat (t0.1, (t0.2.1, (t0.2.2.1, (t0.2.2.2.1, (y7.2, t0.2.2.2.2.2)))))).set x.2.1.toNat (((x.2.2.set x.2.1.toNat (t0.1, (t0.2.1, (t0.2.2.1, (t0.2.2.2.1, (y7.2, t0.2.2.2.2.2)))))).getD x.2.1.toNat (Ty.zero tTxn)).1, (((x.2.2.set x.2.1.toNat (t0.1, (t0.2.1, (t0.2.2.1, (t0.2.2.2.1, (y7.2, t0.2.2.2.2.2)))))).getD x.2.1.toNat (Ty.zero tTxn)).2.1, (((x.2.2.set x.2.1.toNat (t0.1, (t0.2.1, (t0.2.2.1, (t0.2.2.2.1, (y7.2, t0.2.2.2.2.2)))))).getD x.2.1.toNat (Ty.zero tTxn)).2.2.1, (((x.2.2.set x.2.1.toNat (t0.1, (t0.2.1, (t0.2.2.1, (t0.2.2.2.1, (y7.2, t0.2.2.2.2.2)))))).getD x.2.1.toNat (Ty.zero tTxn)).2.2.2.1, (((x.2.2.set x.2.1.toNat (t0.1, (t0.2.1, (t0.2.2.1, (t0.2.2.2.1, (y7.2, t0.2.2.2.2.2)))))).getD x.2.1.toNat (Ty.zero tTxn)).2.2.2.2.1, (y8.2, ((x.2.2.set x.2.1.toNat (t0.1, (t0.2.1, (t0.2.2.1, (t0.2.2.2.1, (y7.2, t0.2.2.2.2.2)))))).getD x.2.1.toNat (Ty.zero tTxn)).2.2.2.2.2.2))))))).getD x.2.1.toNat (Ty.zero tTxn)).2.2.2.2.2.2.2))))))))) (fun z9 =>
 k (z9.1, z9.2.1, z9.2.2))
 else none)
 else none)
 else none
instance n36n_jp5000011 (x : (Int × Int × (List dTxn))) : ParC (vdo x) := by unfold vdo; (try dsimp only); infer_instance
def vdn (x : (Int × Int × (List dTxn))) (k : (Int × Int × (List dTxn)) → Option Res) : Option Res :=
 if 0 ≤ x.2.1 ∧ x.2.1 < (x.2.2.length : Int) then
 vdo ((IntKind.wrap .i64 (x.1 + 1)), x.2.1, (x.2.2.set x.2.1.toNat ((x.2.2.getD x.2.1.toNat (Ty.zero tTxn)).1, ((x.2.2.getD x.2.1.toNat (Ty.zero tTxn)).2.1, ((x.2.2.getD x.2.1.toNat (Ty.zero tTxn)).2.2.1, ((IntKind.wrap .i64 (x.1 + 1)), (x.2.2.getD x.2.1.toNat (Ty.zero tTxn)).2.2.2.2)))))) (fun z6 =>
 k (z6.1, z6.2.1, z6.2.2))
 else none
instance n36n_jp5000009 (x : (Int × Int × (List dTxn))) : ParC (vdn x) := by unfold vdn; (try dsimp only); infer_instance
def vdl (x : (Int × Int × (List dTxn))) (k : (Int × Int × (List dTxn)) → Option Res) : Option Res :=
 if 0 ≤ x.2.1 ∧ x.2.1 < (x.2.2.length : Int) then
 vdn ((IntKind.wrap .i64 (x.1 + 1)), x.2.1, (x.2.2.set x.2.1.toNat ((x.2.2.getD x.2.1.toNat (Ty.zero tTxn)).1, ((x.2.2.getD x.2.1.toNat (Ty.zero tTxn)).2.1, ((IntKind.wrap .i64 (x.1 + 1)), (x.2.2.getD x.2.1.toNat (Ty.zero tTxn)).2.2.2))))) (fun z5 =>
 k (z5.1, z5.2.1, z5.2.2))
 else none
instance n36n_jp5000007 (x : (Int × Int × (List dTxn))) : ParC (vdl x) := by unfold vdl; (try dsimp only); infer_instance
def vdq (x : (Int × Int × (List dTxn))) (k : (Int × Int × (List dTxn)) → Option Res) : Option Res :=
 if 0 ≤ x.2.1 ∧ x.2.1 < (x.2.2.length : Int) then
 vdl ((IntKind.wrap .i64 (x.1 + 1)), x.2.1, (x.2.2.set x.2.1.toNat ((x.2.2.getD x.2.1.toNat (Ty.zero tTxn)).1, ((IntKind.wrap .i64 (x.1 + 1)), (x.2.2.getD x.2.1.toNat (Ty.zero tTxn)).2.2)))) (fun z4 =>
 k (z4.1, z4.2.1, z4.2.2))
 else none
instance n36n_jp5000005 (x : (Int × Int × (List dTxn))) : ParC (vdq x) := by unfold vdq; (try dsimp only); infer_instance
def vj4 (x : (Int × Int × (List dTxn))) (k : (Int × Int × (List dTxn)) ⊕ (Int × Int × (List dTxn)) → Option Res) : Option Res :=
 bif (decide (x.2.1 < (x.2.2.length : Int))) then
 if 0 ≤ x.2.1 ∧ x.2.1 < (x.2.2.length : Int) then
 vdq (x.1, x.2.1, (x.2.2.set x.2.1.toNat (x.1, (x.2.2.getD x.2.1.toNat (Ty.zero tTxn)).2))) (fun z2 =>
 vde (z2.1, z2.2.1, z2.2.2) (fun z3 =>
 k (.inl (z3.1, z3.2.1, z3.2.2))))
 else none
 else
 k (.inr (x.1, x.2.1, x.2.2))
instance n36n_bp0 (x : (Int × Int × (List dTxn))) : ParC (vj4 x) := by unfold vj4; (try dsimp only); infer_instance
def v27 (a0 : Int) (a1 : (List dTxn)) (k : (Int × (List dTxn)) → Option Res) : Option Res :=
 vae vj4 Fuel (a0, 0, a1) (fun z1 =>
 k (z1.1, z1.2.2))
def vrn := shut v27
theorem v9j : vrn = v27 := vah _
instance n36n_p (a0 : Int) (a1 : (List dTxn)) : ParC (vrn a0 a1) := by rw [v9j]; unfold v27; (try dsimp only); infer_instance
def v21 (a0 : Int) (a1 : Int) (a2 : Int) (a3 : (List vac)) (a4 : (List dTxn)) (a5 : (List dTxn)) (k : q27T → Option Res) : Option Res :=
 vy7 a2 a3 (fun y1 =>
 vrn y1.1 a4 (fun y2 =>
 vrn y2.1 a5 (fun y3 =>
 k (y3.1, y1.2, y2.2, y3.2))))
def vzx := shut v21
theorem v9g : vzx = v21 := vah _
instance n32n_p (a0 : Int) (a1 : Int) (a2 : Int) (a3 : (List vac)) (a4 : (List dTxn)) (a5 : (List dTxn)) : ParC (vzx a0 a1 a2 a3 a4 a5) := by rw [v9g]; unfold v21; (try dsimp only); infer_instance
def v31 (a0 : Int) (a1 : Int) (a2 : Int) (a3 : (List vac)) (a4 : (List dTxn)) (a5 : (List dTxn)) (a6 : (List dTxn)) (k : q26T → Option Res) : Option Res :=
 vzx a0 a1 a2 a3 a4 a5 (fun y1 =>
 vrn y1.1 a6 (fun y2 =>
 k (y2.1, y1.2.1, y1.2.2.1, y1.2.2.2, y2.2)))
def vmn := shut v31
theorem v8e : vmn = v31 := vah _
instance n33n_p (a0 : Int) (a1 : Int) (a2 : Int) (a3 : (List vac)) (a4 : (List dTxn)) (a5 : (List dTxn)) (a6 : (List dTxn)) : ParC (vmn a0 a1 a2 a3 a4 a5 a6) := by rw [v8e]; unfold v31; (try dsimp only); infer_instance
def vki (x : q10T) (k : q10T ⊕ (q10T ⊕ q10T) → Option Res) : Option Res :=
 let t0 := (IntKind.wrap .i64 ((IntKind.wrap .i64 (x.2.1 + (1 : Int))) + (1 : Int)))
 let t1 := (rd (Ty.zero tVersion) x.1 x.2.2.2)
 bif (decide (x.2.2.2 < (x.1.length : Int))) then
 if 0 ≤ x.2.2.2 ∧ x.2.2.2 < (x.1.length : Int) then
 vb5 x.2.1 (fun y3 =>
 bif (!(vas (t1.1) y3)) then
 k (.inr (.inl (x.1, x.2.1, (-1 : Int), x.2.2.2)))
 else
 if 0 ≤ x.2.2.2 ∧ x.2.2.2 < (x.1.length : Int) then
 vb5 (IntKind.wrap .i64 (x.2.1 + 1)) (fun y4 =>
 bif (!(vas (t1.2.1) y4)) then
 k (.inr (.inl (x.1, (IntKind.wrap .i64 (x.2.1 + 1)), (-1 : Int), x.2.2.2)))
 else
 if 0 ≤ x.2.2.2 ∧ x.2.2.2 < (x.1.length : Int) then
 bif (!(t1.2.2.1 == ((t0.tmod (3 : Int)) == (0 : Int)))) then
 k (.inr (.inl (x.1, t0, (-1 : Int), x.2.2.2)))
 else
 if 0 ≤ x.2.2.2 ∧ x.2.2.2 < (x.1.length : Int) then
 bif (t1.2.2.2 != (IntKind.wrap .i64 (t0 + 1))) then
 k (.inr (.inl (x.1, (IntKind.wrap .i64 (t0 + 1)), (-1 : Int), x.2.2.2)))
 else
 k (.inl (x.1, (IntKind.wrap .i64 ((IntKind.wrap .i64 (t0 + 1)) + 1)), x.2.2.1, (IntKind.wrap .i64 (x.2.2.2 + 1))))
 else none
 else none)
 else none)
 else none
 else
 k (.inr (.inr (x.1, x.2.1, x.2.2.1, x.2.2.2)))
instance n30n_bp0 (x : q10T) : ParC (vki x) := by unfold vki; (try dsimp only); infer_instance
def v5o (a0 : (List vac)) (a1 : Int) (k : Int → Option Res) : Option Res :=
 vae vki Fuel (a0, a1, 0, 0) (Sum.elim (fun z1 =>
 k z1.2.2.1) (fun z2 =>
 k z2.2.1))
def vvn := shut v5o
theorem v87 : vvn = v5o := vah _
instance n30n_p (a0 : (List vac)) (a1 : Int) : ParC (vvn a0 a1) := by rw [v87]; unfold v5o; (try dsimp only); infer_instance
def vjq (x : q2T) (k : q2T ⊕ (q2T ⊕ q2T) → Option Res) : Option Res :=
 bif (decide (x.2.2.2 < (x.1.length : Int))) then
 if 0 ≤ x.2.2.2 ∧ x.2.2.2 < (x.1.length : Int) then
 vb5 x.2.1 (fun y3 =>
 bif (!(vas ((rd (Ty.zero tRange) x.1 x.2.2.2).1) y3)) then
 k (.inr (.inl (x.1, x.2.1, (-1 : Int), x.2.2.2)))
 else
 if 0 ≤ x.2.2.2 ∧ x.2.2.2 < (x.1.length : Int) then
 vb5 (IntKind.wrap .i64 (x.2.1 + 1)) (fun y4 =>
 bif (!(vas ((rd (Ty.zero tRange) x.1 x.2.2.2).2) y4)) then
 k (.inr (.inl (x.1, (IntKind.wrap .i64 (x.2.1 + 1)), (-1 : Int), x.2.2.2)))
 else
 k (.inl (x.1, (IntKind.wrap .i64 ((IntKind.wrap .i64 (x.2.1 + 1)) + 1)), x.2.2.1, (IntKind.wrap .i64 (x.2.2.2 + 1)))))
 else none)
 else none
 else
 k (.inr (.inr (x.1, x.2.1, x.2.2.1, x.2.2.2)))
instance n28n_bp0 (x : q2T) : ParC (vjq x) := by unfold vjq; (try dsimp only); infer_instance
def v3f (a0 : (List vag)) (a1 : Int) (k : Int → Option Res) : Option Res :=
 vae vjq Fuel (a0, a1, 0, 0) (Sum.elim (fun z1 =>
 k z1.2.2.1) (fun z2 =>
 k z2.2.1))
def vpx := shut v3f
theorem wbm : vpx = v3f := vah _
instance n28n_p (a0 : (List vag)) (a1 : Int) : ParC (vpx a0 a1) := by rw [wbm]; unfold v3f; (try dsimp only); infer_instance
def vj2 (x : q15T) (k : q15T ⊕ (q15T ⊕ q15T) → Option Res) : Option Res :=
 let t0 := (IntKind.wrap .i64 (x.2.1 + (1 : Int)))
 bif (decide (x.2.2.2 < (x.1.length : Int))) then
 if 0 ≤ x.2.2.2 ∧ x.2.2.2 < (x.1.length : Int) then
 vb5 x.2.1 (fun y3 =>
 bif (!(vas ((rd (Ty.zero tWrite) x.1 x.2.2.2).1) y3)) then
 k (.inr (.inl (x.1, x.2.1, (-1 : Int), x.2.2.2)))
 else
 if 0 ≤ x.2.2.2 ∧ x.2.2.2 < (x.1.length : Int) then
 vb5 t0 (fun y4 =>
 bif (!(vas ((rd (Ty.zero tWrite) x.1 x.2.2.2).2.1) y4)) then
 k (.inr (.inl (x.1, t0, (-1 : Int), x.2.2.2)))
 else
 if 0 ≤ x.2.2.2 ∧ x.2.2.2 < (x.1.length : Int) then
 bif (!((rd (Ty.zero tWrite) x.1 x.2.2.2).2.2 == (((IntKind.wrap .i64 (t0 + 1)).tmod (3 : Int)) == (0 : Int)))) then
 k (.inr (.inl (x.1, (IntKind.wrap .i64 (t0 + 1)), (-1 : Int), x.2.2.2)))
 else
 k (.inl (x.1, (IntKind.wrap .i64 ((IntKind.wrap .i64 (t0 + 1)) + 1)), x.2.2.1, (IntKind.wrap .i64 (x.2.2.2 + 1))))
 else none)
 else none)
 else none
 else
 k (.inr (.inr (x.1, x.2.1, x.2.2.1, x.2.2.2)))
instance n31n_bp0 (x : q15T) : ParC (vj2 x) := by unfold vj2; (try dsimp only); infer_instance
def v49 (a0 : (List vaa)) (a1 : Int) (k : Int → Option Res) : Option Res :=
 vae vj2 Fuel (a0, a1, 0, 0) (Sum.elim (fun z1 =>
 k z1.2.2.1) (fun z2 =>
 k z2.2.1))
def vp0 := shut v49
theorem waq : vp0 = v49 := vah _
instance n31n_p (a0 : (List vaa)) (a1 : Int) : ParC (vp0 a0 a1) := by rw [waq]; unfold v49; (try dsimp only); infer_instance
def vjr (x : q7T) (k : q7T ⊕ (q7T ⊕ q7T) → Option Res) : Option Res :=
 let t0 := (IntKind.wrap .i64 ((IntKind.wrap .i64 (x.2.1 + (1 : Int))) + (1 : Int)))
 let t1 := (rd (Ty.zero tTxn) x.1 x.2.2.2)
 bif (decide (x.2.2.2 < (x.1.length : Int))) then
 if 0 ≤ x.2.2.2 ∧ x.2.2.2 < (x.1.length : Int) then
 bif (t1.1 != x.2.1) then
 k (.inr (.inl (x.1, x.2.1, (-1 : Int), x.2.2.2)))
 else
 if 0 ≤ x.2.2.2 ∧ x.2.2.2 < (x.1.length : Int) then
 bif (t1.2.1 != (IntKind.wrap .i64 (x.2.1 + 1))) then
 k (.inr (.inl (x.1, (IntKind.wrap .i64 (x.2.1 + 1)), (-1 : Int), x.2.2.2)))
 else
 if 0 ≤ x.2.2.2 ∧ x.2.2.2 < (x.1.length : Int) then
 bif (t1.2.2.1 != t0) then
 k (.inr (.inl (x.1, t0, (-1 : Int), x.2.2.2)))
 else
 if 0 ≤ x.2.2.2 ∧ x.2.2.2 < (x.1.length : Int) then
 bif (t1.2.2.2.1 != (IntKind.wrap .i64 (t0 + 1))) then
 k (.inr (.inl (x.1, (IntKind.wrap .i64 (t0 + 1)), (-1 : Int), x.2.2.2)))
 else
 if 0 ≤ x.2.2.2 ∧ x.2.2.2 < (x.1.length : Int) then
 vpx (t1.2.2.2.2.1) (IntKind.wrap .i64 ((IntKind.wrap .i64 (t0 + 1)) + 1)) (fun y3 =>
 bif (decide (y3 < 0)) then
 k (.inr (.inl (x.1, y3, (-1 : Int), x.2.2.2)))
 else
 if 0 ≤ x.2.2.2 ∧ x.2.2.2 < (x.1.length : Int) then
 vp0 (t1.2.2.2.2.2.1) y3 (fun y4 =>
 bif (decide (y4 < 0)) then
 k (.inr (.inl (x.1, y4, (-1 : Int), x.2.2.2)))
 else
 if 0 ≤ x.2.2.2 ∧ x.2.2.2 < (x.1.length : Int) then
 bif (!(t1.2.2.2.2.2.2.1 == ((y4.tmod (3 : Int)) == (0 : Int)))) then
 k (.inr (.inl (x.1, y4, (-1 : Int), x.2.2.2)))
 else
 if 0 ≤ x.2.2.2 ∧ x.2.2.2 < (x.1.length : Int) then
 vb5 (IntKind.wrap .i64 (y4 + 1)) (fun y5 =>
 bif (!(vas (t1.2.2.2.2.2.2.2) y5)) then
 k (.inr (.inl (x.1, (IntKind.wrap .i64 (y4 + 1)), (-1 : Int), x.2.2.2)))
 else
 k (.inl (x.1, (IntKind.wrap .i64 ((IntKind.wrap .i64 (y4 + 1)) + 1)), x.2.2.1, (IntKind.wrap .i64 (x.2.2.2 + 1)))))
 else none
 else none)
 else none)
 else none
 else none
 else none
 else none
 else none
 else
 k (.inr (.inr (x.1, x.2.1, x.2.2.1, x.2.2.2)))
instance n29n_bp0 (x : q7T) : ParC (vjr x) := by unfold vjr; (try dsimp only); exact ⟨(vam (vhv (vam (vai _) (vhv (vam (vai _) (vhv (vam (vai _) (vhv (vam (vai _) (vhv ((n28n_p _ _).p.bind fun y3 => (vam (vai _) (vhv ((n31n_p _ _).p.bind fun y4 => (vam (vai _) (vhv (vam (vai _) (vhv ((n35n_p _).p.bind fun y5 => (vam (vai _) (vai _))) veb)) veb))) veb))) veb)) veb)) veb)) veb)) veb) (vai _))⟩
def v4b (a0 : (List dTxn)) (a1 : Int) (k : Int → Option Res) : Option Res :=
 vae vjr Fuel (a0, a1, 0, 0) (Sum.elim (fun z1 =>
 k z1.2.2.1) (fun z2 =>
 k z2.2.1))
def vog := shut v4b
theorem v83 : vog = v4b := vah _
instance n29n_p (a0 : (List dTxn)) (a1 : Int) : ParC (vog a0 a1) := by rw [v83]; unfold v4b; (try dsimp only); infer_instance
def v3n (a0 : vk6) (a1 : Int) (k : Int → Option Res) : Option Res :=
 vvn a0.1 a1 (fun y1 =>
 bif (decide (y1 < 0)) then
 k (-1 : Int)
 else
 vog a0.2.1 y1 (fun y2 =>
 bif (decide (y2 < 0)) then
 k (-1 : Int)
 else
 vog a0.2.2.1 y2 (fun y3 =>
 bif (decide (y3 < 0)) then
 k (-1 : Int)
 else
 k y3)))
def vy1 := shut v3n
theorem wbe : vy1 = v3n := vah _
instance n26n_p (a0 : vk6) (a1 : Int) : ParC (vy1 a0 a1) := by rw [wbe]; unfold v3n; (try dsimp only); infer_instance
def v4c (a0 : va8) (a1 : Int) (k : Int → Option Res) : Option Res :=
 vy1 a0.1 a1 (fun y1 =>
 bif (decide (y1 < 0)) then
 k (-1 : Int)
 else
 vog a0.2 y1 (fun y2 =>
 bif (decide (y2 < 0)) then
 k (-1 : Int)
 else
 k y2))
def vnj := shut v4c
theorem v7t : vnj = v4c := vah _
instance n27n_p (a0 : va8) (a1 : Int) : ParC (vnj a0 a1) := by rw [v7t]; unfold v4c; (try dsimp only); infer_instance
def vcv (x : q19T) (k : q19T → Option Res) : Option Res :=
 vnj ((x.2.2.2.2.1, (x.2.2.2.2.2.1, (x.2.2.2.2.2.2.1, (x.2.2.1, x.2.2.2.1)))), x.2.2.2.2.2.2.2) (1 : Int) (fun y26 =>
 bif (decide (y26 < 0)) then
 k (false, x.2.1, x.2.2.1, x.2.2.2.1, x.2.2.2.2.1, x.2.2.2.2.2.1, x.2.2.2.2.2.2.1, x.2.2.2.2.2.2.2)
 else
 bif (y26 != x.2.1) then
 k (false, x.2.1, x.2.2.1, x.2.2.2.1, x.2.2.2.2.1, x.2.2.2.2.2.1, x.2.2.2.2.2.2.1, x.2.2.2.2.2.2.2)
 else
 k (true, x.2.1, x.2.2.1, x.2.2.2.1, x.2.2.2.2.1, x.2.2.2.2.2.1, x.2.2.2.2.2.2.1, x.2.2.2.2.2.2.2))
instance n15n_jp5000030 (x : q19T) : ParC (vcv x) := by unfold vcv; (try dsimp only); infer_instance
def vcy (x : q28T) (k : (q28T ⊕ q18T) → Option Res) : Option Res :=
 let xh := x.2.2.2.2.2.2.2.2
 let xhh := xh.2.2.2.2.2.2.2.2
 vmn xh.2.2.2.2.2.2.1 xh.2.2.2.2.2.2.2.1 (1 : Int) xhh.2.2.2.2.1 xhh.2.2.2.2.2.1 xhh.2.2.2.2.2.2.1 xhh.2.2.2.2.2.2.2 (fun y19 =>
 vnj ((y19.2.1, (y19.2.2.1, (y19.2.2.2.1, (xh.2.2.2.2.2.2.1, xh.2.2.2.2.2.2.2.1)))), y19.2.2.2.2) (1 : Int) (fun y20 =>
 bif (decide (y20 < 0)) then
 k (.inl (x.1, false, x.2.2.1, x.2.2.2.1, x.2.2.2.2.1, x.2.2.2.2.2.1, x.2.2.2.2.2.2.1, x.2.2.2.2.2.2.2.1, xh.1, xh.2.1, xh.2.2.1, xh.2.2.2.1, xh.2.2.2.2.1, xh.2.2.2.2.2.1, xh.2.2.2.2.2.2.1, xh.2.2.2.2.2.2.2.1, xhh.1, xhh.2.1, xhh.2.2.1, xhh.2.2.2.1, y19.2.1, y19.2.2.1, y19.2.2.2.1, y19.2.2.2.2))
 else
 bif (y20 != y19.1) then
 k (.inl (x.1, false, x.2.2.1, x.2.2.2.1, x.2.2.2.2.1, x.2.2.2.2.2.1, x.2.2.2.2.2.2.1, x.2.2.2.2.2.2.2.1, xh.1, xh.2.1, xh.2.2.1, xh.2.2.2.1, xh.2.2.2.2.1, xh.2.2.2.2.2.1, xh.2.2.2.2.2.2.1, xh.2.2.2.2.2.2.2.1, xhh.1, xhh.2.1, xhh.2.2.1, xhh.2.2.2.1, y19.2.1, y19.2.2.1, y19.2.2.2.1, y19.2.2.2.2))
 else
 vg7 ((x.2.2.2.1, (x.2.2.2.2.1, (x.2.2.2.2.2.1, (x.2.2.2.2.2.2.1, x.2.2.2.2.2.2.2.1)))), xh.1) (fun y21 =>
 vig (xh.2.1, (xh.2.2.1, xh.2.2.2.1)) (fun y22 =>
 vop ((y21.2.2.1, (y21.2.2.2.1, (y21.2.2.2.2.1, (y21.1, y21.2.1)))), y21.2.2.2.2.2) x.1 y22 (fun y23 =>
 vfl ((y23.2.2.2.1, (y23.2.2.2.2.1, (y23.2.2.2.2.2.1, (y23.1, y23.2.1)))), y23.2.2.2.2.2.2) ((xhh.1, (xhh.2.1, (xhh.2.2.1, (xh.2.2.2.2.1, xh.2.2.2.2.2.1)))), xhh.2.2.2.1) (fun y24 =>
 bif (!y24) then
 k (.inl (x.1, false, x.2.2.1, x.2.2.2.1, x.2.2.2.2.1, x.2.2.2.2.2.1, x.2.2.2.2.2.2.1, x.2.2.2.2.2.2.2.1, xh.1, xh.2.1, xh.2.2.1, xh.2.2.2.1, xh.2.2.2.2.1, xh.2.2.2.2.2.1, xh.2.2.2.2.2.2.1, xh.2.2.2.2.2.2.2.1, xhh.1, xhh.2.1, xhh.2.2.1, xhh.2.2.2.1, y19.2.1, y19.2.2.1, y19.2.2.2.1, y19.2.2.2.2))
 else
 bif (y23.2.2.1 != x.2.2.1) then
 k (.inl (x.1, false, x.2.2.1, x.2.2.2.1, x.2.2.2.2.1, x.2.2.2.2.2.1, x.2.2.2.2.2.2.1, x.2.2.2.2.2.2.2.1, xh.1, xh.2.1, xh.2.2.1, xh.2.2.2.1, xh.2.2.2.2.1, xh.2.2.2.2.2.1, xh.2.2.2.2.2.2.1, xh.2.2.2.2.2.2.2.1, xhh.1, xhh.2.1, xhh.2.2.1, xhh.2.2.2.1, y19.2.1, y19.2.2.1, y19.2.2.2.1, y19.2.2.2.2))
 else
 vcv (x.2.1, y19.1, xh.2.2.2.2.2.2.1, xh.2.2.2.2.2.2.2.1, y19.2.1, y19.2.2.1, y19.2.2.2.1, y19.2.2.2.2) (fun z25 =>
 k (.inr (z25.1, z25.2.2.1, z25.2.2.2.1, z25.2.2.2.2.1, z25.2.2.2.2.2.1, z25.2.2.2.2.2.2.1, z25.2.2.2.2.2.2.2)))))))))
instance n15n_jp5000019 (x : q28T) : ParC (vcy x) := by unfold vcy; (try dsimp only); exact ⟨((n33n_p _ _ _ _ _ _ _).p.bind fun y19 => ((n27n_p _ _).p.bind fun y20 => (vam (vai _) (vam (vai _) ((n50n_p _).p.bind fun y21 => ((n57n_p _).p.bind fun y22 => ((n03n_p _ _ _).p.bind fun y23 => ((n17n_p _ _).p.bind fun y24 => (vam (vai _) (vam (vai _) ((n15n_jp5000030 _).p.bind fun z25 => (vai _))))))))))))⟩
def vcp (x : q29T) (k : (q29T ⊕ (q28T ⊕ q18T)) → Option Res) : Option Res :=
 let xh := x.2.2.2.2.2.2.2.2
 let xhh := xh.2.2.2.2.2.2.2.2
 let xhhh := xhh.2.2.2.2.2.2.2.2
 vg7 ((x.2.2.2.2.1, (x.2.2.2.2.2.1, (x.2.2.2.2.2.2.1, (x.2.2.2.2.2.2.2.1, xh.1)))), xh.2.1) (fun y13 =>
 vfl ((xhh.2.2.2.2.2.2.2.1, (xhhh.1, (xhhh.2.1, (xh.2.2.2.2.2.2.2.1, xhh.1)))), xhhh.2.2.1) ((y13.2.2.1, (y13.2.2.2.1, (y13.2.2.2.2.1, (y13.1, y13.2.1)))), y13.2.2.2.2.2) (fun y14 =>
 bif (!y14) then
 k (.inl (x.1, false, x.2.2.1, x.2.2.2.1, x.2.2.2.2.1, x.2.2.2.2.2.1, x.2.2.2.2.2.2.1, x.2.2.2.2.2.2.2.1, xh.1, xh.2.1, xh.2.2.1, xh.2.2.2.1, xh.2.2.2.2.1, xh.2.2.2.2.2.1, xh.2.2.2.2.2.2.1, xh.2.2.2.2.2.2.2.1, xhh.1, xhh.2.1, xhh.2.2.1, xhh.2.2.2.1, xhh.2.2.2.2.1, xhh.2.2.2.2.2.1, xhh.2.2.2.2.2.2.1, xhh.2.2.2.2.2.2.2.1, xhhh.1, xhhh.2.1, xhhh.2.2.1, xhhh.2.2.2.1, xhhh.2.2.2.2.1, xhhh.2.2.2.2.2.1, xhhh.2.2.2.2.2.2))
 else
 vmn xh.2.2.2.2.2.2.2.1 xhh.1 (1 : Int) xhh.2.2.2.2.2.2.2.1 xhhh.1 xhhh.2.1 xhhh.2.2.1 (fun y15 =>
 bif (decide (y15.1 < 0)) then
 k (.inl (x.1, false, x.2.2.1, x.2.2.2.1, x.2.2.2.2.1, x.2.2.2.2.2.1, x.2.2.2.2.2.2.1, x.2.2.2.2.2.2.2.1, xh.1, xh.2.1, xh.2.2.1, xh.2.2.2.1, xh.2.2.2.2.1, xh.2.2.2.2.2.1, xh.2.2.2.2.2.2.1, xh.2.2.2.2.2.2.2.1, xhh.1, xhh.2.1, xhh.2.2.1, xhh.2.2.2.1, xhh.2.2.2.2.1, xhh.2.2.2.2.2.1, xhh.2.2.2.2.2.2.1, y15.2.1, y15.2.2.1, y15.2.2.2.1, y15.2.2.2.2, xhhh.2.2.2.1, xhhh.2.2.2.2.1, xhhh.2.2.2.2.2.1, xhhh.2.2.2.2.2.2))
 else
 vfl ((xhhh.2.2.2.1, (xhhh.2.2.2.2.1, (xhhh.2.2.2.2.2.1, (xhh.2.1, xhh.2.2.1)))), xhhh.2.2.2.2.2.2) ((xhh.2.2.2.1, (xhh.2.2.2.2.1, (xhh.2.2.2.2.2.1, (xh.2.2.2.2.2.1, xh.2.2.2.2.2.2.1)))), xhh.2.2.2.2.2.2.1) (fun y16 =>
 bif (!y16) then
 k (.inl (x.1, false, x.2.2.1, x.2.2.2.1, x.2.2.2.2.1, x.2.2.2.2.2.1, x.2.2.2.2.2.2.1, x.2.2.2.2.2.2.2.1, xh.1, xh.2.1, xh.2.2.1, xh.2.2.2.1, xh.2.2.2.2.1, xh.2.2.2.2.2.1, xh.2.2.2.2.2.2.1, xh.2.2.2.2.2.2.2.1, xhh.1, xhh.2.1, xhh.2.2.1, xhh.2.2.2.1, xhh.2.2.2.2.1, xhh.2.2.2.2.2.1, xhh.2.2.2.2.2.2.1, y15.2.1, y15.2.2.1, y15.2.2.2.1, y15.2.2.2.2, xhhh.2.2.2.1, xhhh.2.2.2.2.1, xhhh.2.2.2.2.2.1, xhhh.2.2.2.2.2.2))
 else
 bif (x.2.2.2.1 != x.2.2.1) then
 k (.inl (x.1, false, x.2.2.1, x.2.2.2.1, x.2.2.2.2.1, x.2.2.2.2.2.1, x.2.2.2.2.2.2.1, x.2.2.2.2.2.2.2.1, xh.1, xh.2.1, xh.2.2.1, xh.2.2.2.1, xh.2.2.2.2.1, xh.2.2.2.2.2.1, xh.2.2.2.2.2.2.1, xh.2.2.2.2.2.2.2.1, xhh.1, xhh.2.1, xhh.2.2.1, xhh.2.2.2.1, xhh.2.2.2.2.1, xhh.2.2.2.2.2.1, xhh.2.2.2.2.2.2.1, y15.2.1, y15.2.2.1, y15.2.2.2.1, y15.2.2.2.2, xhhh.2.2.2.1, xhhh.2.2.2.2.1, xhhh.2.2.2.2.2.1, xhhh.2.2.2.2.2.2))
 else
 vcy (x.1, x.2.1, x.2.2.1, x.2.2.2.2.1, x.2.2.2.2.2.1, x.2.2.2.2.2.2.1, x.2.2.2.2.2.2.2.1, xh.1, xh.2.1, xh.2.2.1, xh.2.2.2.1, xh.2.2.2.2.1, xh.2.2.2.2.2.1, xh.2.2.2.2.2.2.1, xhh.2.1, xhh.2.2.1, xhh.2.2.2.1, xhh.2.2.2.2.1, xhh.2.2.2.2.2.1, xhh.2.2.2.2.2.2.1, xhhh.2.2.2.1, xhhh.2.2.2.2.1, xhhh.2.2.2.2.2.1, xhhh.2.2.2.2.2.2) (Sum.elim (fun z17 =>
 let z17h := z17.2.2.2.2.2.2.2.2
 let z17hh := z17h.2.2.2.2.2.2.2.2
 k (.inr (.inl (z17.1, z17.2.1, z17.2.2.1, z17.2.2.2.1, z17.2.2.2.2.1, z17.2.2.2.2.2.1, z17.2.2.2.2.2.2.1, z17.2.2.2.2.2.2.2.1, z17h.1, z17h.2.1, z17h.2.2.1, z17h.2.2.2.1, z17h.2.2.2.2.1, z17h.2.2.2.2.2.1, z17h.2.2.2.2.2.2.1, z17h.2.2.2.2.2.2.2.1, z17hh.1, z17hh.2.1, z17hh.2.2.1, z17hh.2.2.2.1, z17hh.2.2.2.2.1, z17hh.2.2.2.2.2.1, z17hh.2.2.2.2.2.2.1, z17hh.2.2.2.2.2.2.2)))) (fun z18 =>
 k (.inr (.inr (z18.1, z18.2.1, z18.2.2.1, z18.2.2.2.1, z18.2.2.2.2.1, z18.2.2.2.2.2.1, z18.2.2.2.2.2.2)))))))))
instance n15n_jp5000013 (x : q29T) : ParC (vcp x) := by unfold vcp; (try dsimp only); exact ⟨((n50n_p _).p.bind fun y13 => ((n17n_p _ _).p.bind fun y14 => (vam (vai _) ((n33n_p _ _ _ _ _ _ _).p.bind fun y15 => (vam (vai _) ((n17n_p _ _).p.bind fun y16 => (vam (vai _) (vam (vai _) ((n15n_jp5000019 _).p.bind2 (fun z17 => (vai _)) (fun z18 => (vai _)))))))))))⟩
def v4v (a0 : va8) (a1 : Int) (a2 : vaa) (k : Bool → Option Res) : Option Res :=
 vun a0 (1048576 : Int) (fun y1 =>
 bif (decide (y1 < 0)) then
 k true
 else
 vod a2 y1 (fun y2 =>
 bif (decide (y2 < 0)) then
 k true
 else
 vg7 a0 (fun y3 =>
 vig a2 (fun y4 =>
 vvz ((y3.2.2.1, (y3.2.2.2.1, (y3.2.2.2.2.1, (y3.1, y3.2.1)))), y3.2.2.2.2.2) a1 y4 (fun y5 =>
 vg7 a0 (fun y6 =>
 vig a2 (fun y7 =>
 vop ((y6.2.2.1, (y6.2.2.2.1, (y6.2.2.2.2.1, (y6.1, y6.2.1)))), y6.2.2.2.2.2) a1 y7 (fun y8 =>
 vfl ((y8.2.2.2.1, (y8.2.2.2.2.1, (y8.2.2.2.2.2.1, (y8.1, y8.2.1)))), y8.2.2.2.2.2.2) ((y5.2.2.2.1, (y5.2.2.2.2.1, (y5.2.2.2.2.2.1, (y5.1, y5.2.1)))), y5.2.2.2.2.2.2) (fun y9 =>
 bif (!y9) then
 k false
 else
 bif (y8.2.2.1 != y5.2.2.1) then
 k false
 else
 vcp (a1, false, y5.2.2.1, y8.2.2.1, a0.1.1, a0.1.2.1, a0.1.2.2.1, a0.1.2.2.2.1, a0.1.2.2.2.2, a0.2, a2.1, a2.2.1, a2.2.2, y5.1, y5.2.1, y6.1, y6.2.1, y8.1, y8.2.1, y5.2.2.2.1, y5.2.2.2.2.1, y5.2.2.2.2.2.1, y5.2.2.2.2.2.2, y6.2.2.1, y6.2.2.2.1, y6.2.2.2.2.1, y6.2.2.2.2.2, y8.2.2.2.1, y8.2.2.2.2.1, y8.2.2.2.2.2.1, y8.2.2.2.2.2.2) (Sum.elim (fun z10 =>
 k z10.2.1) (Sum.elim (fun z11 =>
 k z11.2.1) (fun z12 =>
 k z12.1))))))))))))
def vz8 := shut v4v
theorem wa2 : vz8 = v4v := vah _
instance n15n_p (a0 : va8) (a1 : Int) (a2 : vaa) : ParC (vz8 a0 a1 a2) := by rw [wa2]; unfold v4v; (try dsimp only); exact ⟨((n40n_p _ _).p.bind fun y1 => (vam (vai _) ((n47n_p _ _).p.bind fun y2 => (vam (vai _) ((n50n_p _).p.bind fun y3 => ((n57n_p _).p.bind fun y4 => ((n63n_p _ _ _).p.bind fun y5 => ((n50n_p _).p.bind fun y6 => ((n57n_p _).p.bind fun y7 => ((n03n_p _ _ _).p.bind fun y8 => ((n17n_p _ _).p.bind fun y9 => (vam (vai _) (vam (vai _) ((n15n_jp5000013 _).p.bind2 (fun z10 => (vai _)) (fun q => v42 (fun z11 => (vai _)) (fun z12 => (vai _)) q)))))))))))))))⟩
def wfm (args : List AV) (st : St) (k : K1) : Option Res :=
 vak [.agg [.str, .str, .bool, .i], .i] [] args st (fun p q => vv1 (p.1.1, (p.1.2.1, (p.1.2.2.1, p.1.2.2.2.1))) p.2.1 (fun (y : Int) => k (.i y) []))
 (none)
def wgo (args : List AV) (st : St) (k : K1) : Option Res :=
 vak [.lst tVersion, .i] [] args st (fun p q => vyk p.1 p.2.1 (fun (y : Int) => k (.i y) []))
 (none)
def wgf (args : List AV) (st : St) (k : K1) : Option Res :=
 vak [.agg [.str, .str], .i] [] args st (fun p q => vtm (p.1.1, p.1.2.1) p.2.1 (fun (y : Int) => k (.i y) []))
 (none)
def wgq (args : List AV) (st : St) (k : K1) : Option Res :=
 vak [.lst tRange, .i] [] args st (fun p q => vx9 p.1 p.2.1 (fun (y : Int) => k (.i y) []))
 (none)
def wfz (args : List AV) (st : St) (k : K1) : Option Res :=
 vak [.agg [.str, .str, .bool], .i] [] args st (fun p q => vod (p.1.1, (p.1.2.1, p.1.2.2.1)) p.2.1 (fun (y : Int) => k (.i y) []))
 (none)
def whj (args : List AV) (st : St) (k : K1) : Option Res :=
 vak [.lst tWrite, .i] [] args st (fun p q => vys p.1 p.2.1 (fun (y : Int) => k (.i y) []))
 (none)
def wgx (args : List AV) (st : St) (k : K1) : Option Res :=
 vak [.agg [.i, .i, .i, .i, .lst tRange, .lst tWrite, .bool, .str], .i] [] args st (fun p q => vv3 (p.1.1, (p.1.2.1, (p.1.2.2.1, (p.1.2.2.2.1, (p.1.2.2.2.2.1, (p.1.2.2.2.2.2.1, (p.1.2.2.2.2.2.2.1, p.1.2.2.2.2.2.2.2.1))))))) p.2.1 (fun (y : Int) => k (.i y) []))
 (none)
def wg5 (args : List AV) (st : St) (k : K1) : Option Res :=
 vak [.lst tTxn, .i] [] args st (fun p q => vrj p.1 p.2.1 (fun (y : Int) => k (.i y) []))
 (none)
def wgm (args : List AV) (st : St) (k : K1) : Option Res :=
 vak [.agg [.lst tVersion, .lst tTxn, .lst tTxn, .i, .i], .i] [] args st (fun p q => vz6 (p.1.1, (p.1.2.1, (p.1.2.2.1, (p.1.2.2.2.1, p.1.2.2.2.2.1)))) p.2.1 (fun (y : Int) => k (.i y) []))
 (none)
def wg3 (args : List AV) (st : St) (k : K1) : Option Res :=
 vak [.agg [.lst tVersion, .lst tTxn, .lst tTxn, .i, .i, .lst tTxn], .i] [] args st (fun p q => vun ((p.1.1, (p.1.2.1, (p.1.2.2.1, (p.1.2.2.2.1, p.1.2.2.2.2.1)))), p.1.2.2.2.2.2.1) p.2.1 (fun (y : Int) => k (.i y) []))
 (none)
def wgl (args : List AV) (st : St) (k : K1) : Option Res :=
 vak [.agg [.str, .str, .bool, .i]] [] args st (fun p q => vux (p.1.1, (p.1.2.1, (p.1.2.2.1, p.1.2.2.2.1))) (fun (y : q25T) => k (.agg [.str y.1, .str y.2.1, .bool y.2.2.1, .i y.2.2.2]) []))
 (none)
def wf0 (args : List AV) (st : St) (k : K1) : Option Res :=
 vak [.lst tVersion] [] args st (fun p q => vub p.1 (fun (y : (List vac)) => k (.own 0) [.arr tVersion y]))
 (none)
def wgg (args : List AV) (st : St) (k : K1) : Option Res :=
 vak [.agg [.str, .str]] [] args st (fun p q => vv2 (p.1.1, p.1.2.1) (fun (y : (ByteArray × ByteArray)) => k (.agg [.str y.1, .str y.2]) []))
 (none)
def wfp (args : List AV) (st : St) (k : K1) : Option Res :=
 vak [.lst tRange] [] args st (fun p q => vtx p.1 (fun (y : (List vag)) => k (.own 0) [.arr tRange y]))
 (none)
def wgv (args : List AV) (st : St) (k : K1) : Option Res :=
 vak [.agg [.str, .str, .bool]] [] args st (fun p q => vig (p.1.1, (p.1.2.1, p.1.2.2.1)) (fun (y : (ByteArray × ByteArray × Bool)) => k (.agg [.str y.1, .str y.2.1, .bool y.2.2]) []))
 (none)
def wge (args : List AV) (st : St) (k : K1) : Option Res :=
 vak [.lst tWrite] [] args st (fun p q => vum p.1 (fun (y : (List vaa)) => k (.own 0) [.arr tWrite y]))
 (none)
def wg4 (args : List AV) (st : St) (k : K1) : Option Res :=
 vak [.agg [.i, .i, .i, .i, .lst tRange, .lst tWrite, .bool, .str]] [] args st (fun p q => vrt (p.1.1, (p.1.2.1, (p.1.2.2.1, (p.1.2.2.2.1, (p.1.2.2.2.2.1, (p.1.2.2.2.2.2.1, (p.1.2.2.2.2.2.2.1, p.1.2.2.2.2.2.2.2.1))))))) (fun (y : q35T) => k (.agg [.i y.1, .i y.2.1, .i y.2.2.1, .i y.2.2.2.1, .own 0, .own 1, .bool y.2.2.2.2.1, .str y.2.2.2.2.2.1]) [.arr tRange y.2.2.2.2.2.2.1, .arr tWrite y.2.2.2.2.2.2.2]))
 (none)
def whm (args : List AV) (st : St) (k : K1) : Option Res :=
 vak [.lst tTxn] [] args st (fun p q => voy p.1 (fun (y : (List dTxn)) => k (.own 0) [.dep tTxn y 0]))
 (none)
def wfv (args : List AV) (st : St) (k : K1) : Option Res :=
 vak [.agg [.lst tVersion, .lst tTxn, .lst tTxn, .i, .i]] [] args st (fun p q => vt3 (p.1.1, (p.1.2.1, (p.1.2.2.1, (p.1.2.2.2.1, p.1.2.2.2.2.1)))) (fun (y : q32T) => k (.agg [.own 0, .own 1, .own 2, .i y.1, .i y.2.1]) [.arr tVersion y.2.2.1, .dep tTxn y.2.2.2.1 0, .dep tTxn y.2.2.2.2 0]))
 (none)
def wgz (args : List AV) (st : St) (k : K1) : Option Res :=
 vak [.agg [.lst tVersion, .lst tTxn, .lst tTxn, .i, .i, .lst tTxn]] [] args st (fun p q => vg7 ((p.1.1, (p.1.2.1, (p.1.2.2.1, (p.1.2.2.2.1, p.1.2.2.2.2.1)))), p.1.2.2.2.2.2.1) (fun (y : q31T) => k (.agg [.own 0, .own 1, .own 2, .i y.1, .i y.2.1, .own 3]) [.arr tVersion y.2.2.1, .dep tTxn y.2.2.2.1 0, .dep tTxn y.2.2.2.2.1 0, .dep tTxn y.2.2.2.2.2 0]))
 (none)
def wfq (args : List AV) (st : St) (k : K1) : Option Res :=
 vak [.agg [.i, .i, .i, .i, .lst tRange, .lst tWrite, .bool, .str]] [] args st (fun p q => vlb (p.1.1, (p.1.2.1, (p.1.2.2.1, (p.1.2.2.2.1, (p.1.2.2.2.2.1, (p.1.2.2.2.2.2.1, (p.1.2.2.2.2.2.2.1, p.1.2.2.2.2.2.2.2.1))))))) (fun (y : q35T) => k (.agg [.i y.1, .i y.2.1, .i y.2.2.1, .i y.2.2.2.1, .own 0, .own 1, .bool y.2.2.2.2.1, .str y.2.2.2.2.2.1]) [.arr tRange y.2.2.2.2.2.2.1, .arr tWrite y.2.2.2.2.2.2.2]))
 (none)
def wfw (args : List AV) (st : St) (k : K1) : Option Res :=
 vak [.lst tTxn] [] args st (fun p q => voq p.1 (fun (y : (List dTxn)) => k (.own 0) [.arr tTxn y]))
 (none)
def whn (args : List AV) (st : St) (k : K1) : Option Res :=
 vak [.agg [.lst tVersion, .lst tTxn, .lst tTxn, .i, .i]] [] args st (fun p q => v5j (p.1.1, (p.1.2.1, (p.1.2.2.1, (p.1.2.2.2.1, p.1.2.2.2.2.1)))) (fun (y : q32T) => k (.agg [.own 0, .own 1, .own 2, .i y.1, .i y.2.1]) [.arr tVersion y.2.2.1, .arr tTxn y.2.2.2.1, .arr tTxn y.2.2.2.2]))
 (none)
def whi (args : List AV) (st : St) (k : K1) : Option Res :=
 vak [.agg [.lst tVersion, .lst tTxn, .lst tTxn, .i, .i, .lst tTxn]] [] args st (fun p q => vzq ((p.1.1, (p.1.2.1, (p.1.2.2.1, (p.1.2.2.2.1, p.1.2.2.2.2.1)))), p.1.2.2.2.2.2.1) (fun (y : q31T) => k (.agg [.own 0, .own 1, .own 2, .i y.1, .i y.2.1, .own 3]) [.arr tVersion y.2.2.1, .arr tTxn y.2.2.2.1, .arr tTxn y.2.2.2.2.1, .arr tTxn y.2.2.2.2.2]))
 (none)
def wf1 (args : List AV) (st : St) (k : K1) : Option Res :=
 vak [.agg [.lst tVersion, .lst tTxn, .lst tTxn, .i, .i, .lst tTxn], .i] [] args st (fun p q => vul ((p.1.1, (p.1.2.1, (p.1.2.2.1, (p.1.2.2.2.1, p.1.2.2.2.2.1)))), p.1.2.2.2.2.2.1) p.2.1 (fun (y : Int) => k (.i y) []))
 (none)
def wfy (args : List AV) (st : St) (k : K1) : Option Res :=
 vak [.i, .i, .i] [] args st (fun p q => vfb p.1 p.2.1 p.2.2.1 (fun (y : Bool) => k (.bool y) []))
 (none)
def wfo (args : List AV) (st : St) (k : K1) : Option Res :=
 vak [.str] [] args st (fun p q => vlf p.1 (fun (y : Bool) => k (.bool y) []))
 (none)
def wgp (args : List AV) (st : St) (k : K1) : Option Res :=
 vak [.agg [.str, .str, .bool]] [] args st (fun p q => vnl (p.1.1, (p.1.2.1, p.1.2.2.1)) (fun (y : Bool) => k (.bool y) []))
 (none)
def wgc (args : List AV) (st : St) (k : K1) : Option Res :=
 vak [.lst tWrite] [] args st (fun p q => vno p.1 (fun (y : Bool) => k (.bool y) []))
 (none)
def wf6 (args : List AV) (st : St) (k : K1) : Option Res :=
 vak [.agg [.str, .str]] [] args st (fun p q => vu7 (p.1.1, p.1.2.1) (fun (y : Bool) => k (.bool y) []))
 (none)
def wgr (args : List AV) (st : St) (k : K1) : Option Res :=
 vak [.agg [.i, .i, .i, .i, .lst tRange, .lst tWrite, .bool, .str]] [] args st (fun p q => vsg (p.1.1, (p.1.2.1, (p.1.2.2.1, (p.1.2.2.2.1, (p.1.2.2.2.2.1, (p.1.2.2.2.2.2.1, (p.1.2.2.2.2.2.2.1, p.1.2.2.2.2.2.2.2.1))))))) (fun (y : Bool) => k (.bool y) []))
 (none)
def wgs (args : List AV) (st : St) (k : K1) : Option Res :=
 vak [.lst tWrite, .agg [.str, .str, .bool]] [] args st (fun p q => vqb p.1 (p.2.1.1, (p.2.1.2.1, p.2.1.2.2.1)) (fun (y : (List vaa)) => k (.own 0) [.arr tWrite y]))
 (none)
def whg (args : List AV) (st : St) (k : K1) : Option Res :=
 vak [.agg [.i, .i, .i, .i, .lst tRange, .lst tWrite, .bool, .str], .agg [.str, .str, .bool]] [] args st (fun p q => vt4 (p.1.1, (p.1.2.1, (p.1.2.2.1, (p.1.2.2.2.1, (p.1.2.2.2.2.1, (p.1.2.2.2.2.2.1, (p.1.2.2.2.2.2.2.1, p.1.2.2.2.2.2.2.2.1))))))) (p.2.1.1, (p.2.1.2.1, p.2.1.2.2.1)) (fun (y : q36T) => k (.tup [.agg [.i y.1, .i y.2.1, .i y.2.2.1, .i y.2.2.2.1, .own 0, .own 1, .bool y.2.2.2.2.1, .str y.2.2.2.2.2.1], .bool y.2.2.2.2.2.2.1]) [.arr tRange y.2.2.2.2.2.2.2.1, .arr tWrite y.2.2.2.2.2.2.2.2]))
 (none)
def wgh (args : List AV) (st : St) (k : K1) : Option Res :=
 vak [.agg [.lst tVersion, .lst tTxn, .lst tTxn, .i, .i, .lst tTxn], .i, .agg [.str, .str, .bool]] [] args st (fun p q => vvz ((p.1.1, (p.1.2.1, (p.1.2.2.1, (p.1.2.2.2.1, p.1.2.2.2.2.1)))), p.1.2.2.2.2.2.1) p.2.1 (p.2.2.1.1, (p.2.2.1.2.1, p.2.2.1.2.2.1)) (fun (y : q33T) => k (.tup [.agg [.own 0, .own 1, .own 2, .i y.1, .i y.2.1, .own 3], .i y.2.2.1]) [.arr tVersion y.2.2.2.1, .arr tTxn y.2.2.2.2.1, .arr tTxn y.2.2.2.2.2.1, .arr tTxn y.2.2.2.2.2.2]))
 (none)
def wf4 (args : List AV) (st : St) (k : K1) : Option Res :=
 vak [.agg [.i, .i, .i, .i, .lst tRange, .lst tWrite, .bool, .str]] [] args st (fun p q => vlg (p.1.1, (p.1.2.1, (p.1.2.2.1, (p.1.2.2.2.1, (p.1.2.2.2.2.1, (p.1.2.2.2.2.2.1, (p.1.2.2.2.2.2.2.1, p.1.2.2.2.2.2.2.2.1))))))) (fun (y : q35T) => k (.agg [.i y.1, .i y.2.1, .i y.2.2.1, .i y.2.2.2.1, .own 0, .own 1, .bool y.2.2.2.2.1, .str y.2.2.2.2.2.1]) [.arr tRange y.2.2.2.2.2.2.1, .arr tWrite y.2.2.2.2.2.2.2]))
 (none)
def wfx (args : List AV) (st : St) (k : K1) : Option Res :=
 vak [.lst tTxn] [] args st (fun p q => vou p.1 (fun (y : (List dTxn)) => k (.own 0) [.dep tTxn y 0]))
 (none)
def wfs (args : List AV) (st : St) (k : K1) : Option Res :=
 vak [.agg [.lst tVersion, .lst tTxn, .lst tTxn, .i, .i]] [] args st (fun p q => v20 (p.1.1, (p.1.2.1, (p.1.2.2.1, (p.1.2.2.2.1, p.1.2.2.2.2.1)))) (fun (y : q32T) => k (.agg [.own 0, .own 1, .own 2, .i y.1, .i y.2.1]) [.arr tVersion y.2.2.1, .dep tTxn y.2.2.2.1 0, .dep tTxn y.2.2.2.2 0]))
 (none)
def wgn (args : List AV) (st : St) (k : K1) : Option Res :=
 vak [.agg [.lst tVersion, .lst tTxn, .lst tTxn, .i, .i, .lst tTxn]] [] args st (fun p q => vzr ((p.1.1, (p.1.2.1, (p.1.2.2.1, (p.1.2.2.2.1, p.1.2.2.2.2.1)))), p.1.2.2.2.2.2.1) (fun (y : q31T) => k (.agg [.own 0, .own 1, .own 2, .i y.1, .i y.2.1, .own 3]) [.arr tVersion y.2.2.1, .dep tTxn y.2.2.2.1 0, .dep tTxn y.2.2.2.2.1 0, .dep tTxn y.2.2.2.2.2 0]))
 (none)
def wgw (args : List AV) (st : St) (k : K1) : Option Res :=
 vak [.agg [.i, .i, .i, .i, .lst tRange, .lst tWrite, .bool, .str], .bp 0 0] [.box [.i]] args st (fun p q => vtn (p.1.1, (p.1.2.1, (p.1.2.2.1, (p.1.2.2.2.1, (p.1.2.2.2.2.1, (p.1.2.2.2.2.2.1, (p.1.2.2.2.2.2.2.1, p.1.2.2.2.2.2.2.2.1))))))) q.1.1 (fun (y : (Bool × Int)) => k (.bool y.1) [.box [.i y.2]]))
 (none)
def vdv (args : List AV) (st : St) (k : K1) : Option Res :=
 vak [.lst tTxn, .fn 192 [.bp 0 0]] [.box [.i]] args st (fun p q => vz2 p.1 q.1.1 (fun (y : (Int × Int)) => k (.i y.1) [.box [.i y.2]]))
 (none)
def wga (args : List AV) (st : St) (k : K1) : Option Res :=
 vak [.agg [.lst tVersion, .lst tTxn, .lst tTxn, .i, .i, .lst tTxn], .i] [] args st (fun p q => vz9 ((p.1.1, (p.1.2.1, (p.1.2.2.1, (p.1.2.2.2.1, p.1.2.2.2.2.1)))), p.1.2.2.2.2.2.1) p.2.1 (fun (y : Int) => k (.i y) []))
 (none)
def wgu (args : List AV) (st : St) (k : K1) : Option Res :=
 vak [.i, .i, .i] [] args st (fun p q => vfm p.1 p.2.1 p.2.2.1 (fun (y : Bool) => k (.bool y) []))
 (none)
def wfu (args : List AV) (st : St) (k : K1) : Option Res :=
 vak [.str] [] args st (fun p q => vli p.1 (fun (y : Bool) => k (.bool y) []))
 (none)
def wha (args : List AV) (st : St) (k : K1) : Option Res :=
 vak [.agg [.str, .str, .bool]] [] args st (fun p q => vmq (p.1.1, (p.1.2.1, p.1.2.2.1)) (fun (y : Bool) => k (.bool y) []))
 (none)
def whh (args : List AV) (st : St) (k : K1) : Option Res :=
 vak [.agg [.str, .str]] [] args st (fun p q => vuk (p.1.1, p.1.2.1) (fun (y : Bool) => k (.bool y) []))
 (none)
def whb (args : List AV) (st : St) (k : K1) : Option Res :=
 vak [.lst tWrite] [] args st (fun p q => vqt p.1 (fun (y : Bool) => k (.bool y) []))
 (none)
def wf7 (args : List AV) (st : St) (k : K1) : Option Res :=
 vak [.agg [.i, .i, .i, .i, .lst tRange, .lst tWrite, .bool, .str]] [] args st (fun p q => vne (p.1.1, (p.1.2.1, (p.1.2.2.1, (p.1.2.2.2.1, (p.1.2.2.2.2.1, (p.1.2.2.2.2.2.1, (p.1.2.2.2.2.2.2.1, p.1.2.2.2.2.2.2.2.1))))))) (fun (y : Bool) => k (.bool y) []))
 (none)
def vcm (args : List AV) (st : St) (k : K1) : Option Res :=
 vak [.own 0, .i, .own 1] [.arr tWrite, .arr tWrite] args st (fun p q => vya p.2.1 q.1 q.2.1 (fun (y : ((List vaa) × (List vaa))) => k (.own 2) [.gone, .arr tWrite y.1, .arr tWrite y.2]))
 (none)
def wg7 (args : List AV) (st : St) (k : K1) : Option Res :=
 vak [.lst tWrite, .agg [.str, .str, .bool]] [] args st (fun p q => vuu p.1 (p.2.1.1, (p.2.1.2.1, p.2.1.2.2.1)) (fun (y : (List vaa)) => k (.own 0) [.arr tWrite y]))
 (none)
def whe (args : List AV) (st : St) (k : K1) : Option Res :=
 vak [.agg [.i, .i, .i, .i, .lst tRange, .lst tWrite, .bool, .str], .agg [.str, .str, .bool]] [] args st (fun p q => vuj (p.1.1, (p.1.2.1, (p.1.2.2.1, (p.1.2.2.2.1, (p.1.2.2.2.2.1, (p.1.2.2.2.2.2.1, (p.1.2.2.2.2.2.2.1, p.1.2.2.2.2.2.2.2.1))))))) (p.2.1.1, (p.2.1.2.1, p.2.1.2.2.1)) (fun (y : q36T) => k (.tup [.agg [.i y.1, .i y.2.1, .i y.2.2.1, .i y.2.2.2.1, .own 0, .own 1, .bool y.2.2.2.2.1, .str y.2.2.2.2.2.1], .bool y.2.2.2.2.2.2.1]) [.arr tRange y.2.2.2.2.2.2.2.1, .arr tWrite y.2.2.2.2.2.2.2.2]))
 (none)
def wg6 (args : List AV) (st : St) (k : K1) : Option Res :=
 vak [.agg [.lst tVersion, .lst tTxn, .lst tTxn, .i, .i, .lst tTxn], .i, .agg [.str, .str, .bool]] [] args st (fun p q => vop ((p.1.1, (p.1.2.1, (p.1.2.2.1, (p.1.2.2.2.1, p.1.2.2.2.2.1)))), p.1.2.2.2.2.2.1) p.2.1 (p.2.2.1.1, (p.2.2.1.2.1, p.2.2.1.2.2.1)) (fun (y : q33T) => k (.tup [.agg [.own 0, .own 1, .own 2, .i y.1, .i y.2.1, .own 3], .i y.2.2.1]) [.arr tVersion y.2.2.2.1, .dep tTxn y.2.2.2.2.1 0, .dep tTxn y.2.2.2.2.2.1 0, .dep tTxn y.2.2.2.2.2.2 0]))
 (none)
def wg1 (args : List AV) (st : St) (k : K1) : Option Res :=
 vak [.agg [.str, .str, .bool, .i], .agg [.str, .str, .bool, .i]] [] args st (fun p q => vvu (p.1.1, (p.1.2.1, (p.1.2.2.1, p.1.2.2.2.1))) (p.2.1.1, (p.2.1.2.1, (p.2.1.2.2.1, p.2.1.2.2.2.1))) (fun (y : Bool) => k (.bool y) []))
 (none)
def whl (args : List AV) (st : St) (k : K1) : Option Res :=
 vak [.lst tVersion, .lst tVersion] [] args st (fun p q => vva p.1 p.2.1 (fun (y : Bool) => k (.bool y) []))
 (none)
def wf9 (args : List AV) (st : St) (k : K1) : Option Res :=
 vak [.agg [.str, .str], .agg [.str, .str]] [] args st (fun p q => vu8 (p.1.1, p.1.2.1) (p.2.1.1, p.2.1.2.1) (fun (y : Bool) => k (.bool y) []))
 (none)
def wgd (args : List AV) (st : St) (k : K1) : Option Res :=
 vak [.lst tRange, .lst tRange] [] args st (fun p q => vtt p.1 p.2.1 (fun (y : Bool) => k (.bool y) []))
 (none)
def wg2 (args : List AV) (st : St) (k : K1) : Option Res :=
 vak [.agg [.str, .str, .bool], .agg [.str, .str, .bool]] [] args st (fun p q => vuo (p.1.1, (p.1.2.1, p.1.2.2.1)) (p.2.1.1, (p.2.1.2.1, p.2.1.2.2.1)) (fun (y : Bool) => k (.bool y) []))
 (none)
def whk (args : List AV) (st : St) (k : K1) : Option Res :=
 vak [.lst tWrite, .lst tWrite] [] args st (fun p q => vvk p.1 p.2.1 (fun (y : Bool) => k (.bool y) []))
 (none)
def wgi (args : List AV) (st : St) (k : K1) : Option Res :=
 vak [.agg [.i, .i, .i, .i, .lst tRange, .lst tWrite, .bool, .str], .agg [.i, .i, .i, .i, .lst tRange, .lst tWrite, .bool, .str]] [] args st (fun p q => vrg (p.1.1, (p.1.2.1, (p.1.2.2.1, (p.1.2.2.2.1, (p.1.2.2.2.2.1, (p.1.2.2.2.2.2.1, (p.1.2.2.2.2.2.2.1, p.1.2.2.2.2.2.2.2.1))))))) (p.2.1.1, (p.2.1.2.1, (p.2.1.2.2.1, (p.2.1.2.2.2.1, (p.2.1.2.2.2.2.1, (p.2.1.2.2.2.2.2.1, (p.2.1.2.2.2.2.2.2.1, p.2.1.2.2.2.2.2.2.2.1))))))) (fun (y : Bool) => k (.bool y) []))
 (none)
def wgt (args : List AV) (st : St) (k : K1) : Option Res :=
 vak [.lst tTxn, .lst tTxn] [] args st (fun p q => vm6 p.1 p.2.1 (fun (y : Bool) => k (.bool y) []))
 (none)
def wgy (args : List AV) (st : St) (k : K1) : Option Res :=
 vak [.agg [.lst tVersion, .lst tTxn, .lst tTxn, .i, .i], .agg [.lst tVersion, .lst tTxn, .lst tTxn, .i, .i]] [] args st (fun p q => vt5 (p.1.1, (p.1.2.1, (p.1.2.2.1, (p.1.2.2.2.1, p.1.2.2.2.2.1)))) (p.2.1.1, (p.2.1.2.1, (p.2.1.2.2.1, (p.2.1.2.2.2.1, p.2.1.2.2.2.2.1)))) (fun (y : Bool) => k (.bool y) []))
 (none)
def wf2 (args : List AV) (st : St) (k : K1) : Option Res :=
 vak [.agg [.lst tVersion, .lst tTxn, .lst tTxn, .i, .i, .lst tTxn], .agg [.lst tVersion, .lst tTxn, .lst tTxn, .i, .i, .lst tTxn]] [] args st (fun p q => vfl ((p.1.1, (p.1.2.1, (p.1.2.2.1, (p.1.2.2.2.1, p.1.2.2.2.2.1)))), p.1.2.2.2.2.2.1) ((p.2.1.1, (p.2.1.2.1, (p.2.1.2.2.1, (p.2.1.2.2.2.1, p.2.1.2.2.2.2.1)))), p.2.1.2.2.2.2.2.1) (fun (y : Bool) => k (.bool y) []))
 (none)
def whc (args : List AV) (st : St) (k : K1) : Option Res :=
 vak [.i] [] args st (fun p q => vb5 p.1 (fun (y : ByteArray) => k (.str y) []))
 (none)
def ve4 (args : List AV) (st : St) (k : K1) : Option Res :=
 vak [.own 0, .i] [.arr tVersion] args st (fun p q => vy7 p.2.1 q.1 (fun (y : (Int × (List vac))) => k (.i y.1) [.arr tVersion y.2]))
 (none)
def vg3 (args : List AV) (st : St) (k : K1) : Option Res :=
 vak [.own 0, .i] [.arr tRange] args st (fun p q => vy9 p.2.1 q.1 (fun (y : (Int × (List vag))) => k (.i y.1) [.arr tRange y.2]))
 (none)
def vg5 (args : List AV) (st : St) (k : K1) : Option Res :=
 vak [.own 0, .i] [.arr tWrite] args st (fun p q => vz7 p.2.1 q.1 (fun (y : (Int × (List vaa))) => k (.i y.1) [.arr tWrite y.2]))
 (none)
def vix (args : List AV) (st : St) (k : K1) : Option Res :=
 vak [.own 0, .i] [.dep tTxn 0] args st (fun p q => vrn p.2.1 q.1 (fun (y : (Int × (List dTxn))) => k (.i y.1) [.dep tTxn y.2 0]))
 (none)
def vkm (args : List AV) (st : St) (k : K1) : Option Res :=
 vak [.agg [.own 0, .own 1, .own 2, .i, .i], .i] [.arr tVersion, .dep tTxn 0, .dep tTxn 0] args st (fun p q => vzx p.1.2.2.2.1 p.1.2.2.2.2.1 p.2.1 q.1 q.2.1 q.2.2.1 (fun (y : q27T) => k (.i y.1) [.arr tVersion y.2.1, .dep tTxn y.2.2.1 0, .dep tTxn y.2.2.2 0]))
 (none)
def vg1 (args : List AV) (st : St) (k : K1) : Option Res :=
 vak [.agg [.own 0, .own 1, .own 2, .i, .i, .own 3], .i] [.arr tVersion, .dep tTxn 0, .dep tTxn 0, .dep tTxn 0] args st (fun p q => vmn p.1.2.2.2.1 p.1.2.2.2.2.1 p.2.1 q.1 q.2.1 q.2.2.1 q.2.2.2.1 (fun (y : q26T) => k (.i y.1) [.arr tVersion y.2.1, .dep tTxn y.2.2.1 0, .dep tTxn y.2.2.2.1 0, .dep tTxn y.2.2.2.2 0]))
 (none)
def wf5 (args : List AV) (st : St) (k : K1) : Option Res :=
 vak [.lst tVersion, .i] [] args st (fun p q => vvn p.1 p.2.1 (fun (y : Int) => k (.i y) []))
 (none)
def wg8 (args : List AV) (st : St) (k : K1) : Option Res :=
 vak [.lst tRange, .i] [] args st (fun p q => vpx p.1 p.2.1 (fun (y : Int) => k (.i y) []))
 (none)
def wgb (args : List AV) (st : St) (k : K1) : Option Res :=
 vak [.lst tWrite, .i] [] args st (fun p q => vp0 p.1 p.2.1 (fun (y : Int) => k (.i y) []))
 (none)
def wg0 (args : List AV) (st : St) (k : K1) : Option Res :=
 vak [.lst tTxn, .i] [] args st (fun p q => vog p.1 p.2.1 (fun (y : Int) => k (.i y) []))
 (none)
def wf8 (args : List AV) (st : St) (k : K1) : Option Res :=
 vak [.agg [.lst tVersion, .lst tTxn, .lst tTxn, .i, .i], .i] [] args st (fun p q => vy1 (p.1.1, (p.1.2.1, (p.1.2.2.1, (p.1.2.2.2.1, p.1.2.2.2.2.1)))) p.2.1 (fun (y : Int) => k (.i y) []))
 (none)
def wfr (args : List AV) (st : St) (k : K1) : Option Res :=
 vak [.agg [.lst tVersion, .lst tTxn, .lst tTxn, .i, .i, .lst tTxn], .i] [] args st (fun p q => vnj ((p.1.1, (p.1.2.1, (p.1.2.2.1, (p.1.2.2.2.1, p.1.2.2.2.2.1)))), p.1.2.2.2.2.2.1) p.2.1 (fun (y : Int) => k (.i y) []))
 (none)
def v8f (args : List AV) (st : St) (k : K1) : Option Res :=
 vak [.agg [.lst tVersion, .lst tTxn, .lst tTxn, .i, .i, .lst tTxn], .i, .agg [.str, .str, .bool]] [] args st (fun p q => vz8 ((p.1.1, (p.1.2.1, (p.1.2.2.1, (p.1.2.2.2.1, p.1.2.2.2.2.1)))), p.1.2.2.2.2.2.1) p.2.1 (p.2.2.1.1, (p.2.2.1.2.1, p.2.2.1.2.2.1)) (fun (y : Bool) => k (.bool y) []))
 (none)
end
end Go.VE
