/- Native programs of the functions, written by gen.py. -/
import Derived.Test.YtiajamilfgkecaaT0
import Derived.Test.YtiajamilfgkecaaU29
namespace Go.VE
noncomputable section
set_option linter.unusedVariables false
set_option linter.unusedSimpArgs false
set_option maxRecDepth 100000
abbrev q0T : Type := ((List vaa) × (List vaa) × Bool × Int)
abbrev q1T : Type := ((List vaa) × (List vaa))
abbrev q2T : Type := ((List vaa) × (List vad) × Int × Bool × (List vaa) × (List vaa))
abbrev q3T : Type := ((List vaa) × Int × (List vaa))
abbrev q4T : Type := ((List vaa) × Int × Int × Int × ByteArray × ByteArray × Bool × Int)
abbrev q5T : Type := ((List vaa) × Int × Int × Int)
abbrev q6T : Type := ((List vad) × (List vad) × Bool × Int)
abbrev q7T : Type := ((List vad) × Int × (List vad))
abbrev q8T : Type := ((List vad) × Int × Int × (List vaa))
abbrev q9T : Type := ((List vad) × Int × Int × Int × (List vaa) × ByteArray × ByteArray × Bool × Int × (List vaa))
abbrev q10T : Type := ((List vad) × Int × Int × Int)
abbrev q11T : Type := (Bool × ByteArray × ByteArray × Bool × Int)
abbrev q12T : Type := (ByteArray × ByteArray × Bool × Int)
abbrev q13T : Type := (Int × (List vad) × Int × Int × (List vaa))
abbrev q14T : Type := (Int × ByteArray × ByteArray × Bool × Int)
def vsy (a0 : vaa) (a1 : Int) (k : Int → Option Res) : Option Res :=
 bif (decide ((IntKind.wrap .i64 (a1 - (a0.1.size : Int))) < (0 : Int))) then
 k (-1 : Int)
 else
 bif (decide ((IntKind.wrap .i64 ((IntKind.wrap .i64 (a1 - (a0.1.size : Int))) - (a0.2.1.size : Int))) < (0 : Int))) then
 k (-1 : Int)
 else
 k (IntKind.wrap .i64 ((IntKind.wrap .i64 (a1 - (a0.1.size : Int))) - (a0.2.1.size : Int)))
def vmo := shut vsy
theorem vwj : vmo = vsy := vay _
instance n16n_p (a0 : vaa) (a1 : Int) : ParC (vmo a0 a1) := by rw [vwj]; unfold vsy; (try dsimp only); infer_instance
def vha (x : q5T) (k : q5T ⊕ (q5T ⊕ q5T) → Option Res) : Option Res :=
 bif (decide (x.2.2.2 < (x.1.length : Int))) then
 if 0 ≤ x.2.2.2 ∧ x.2.2.2 < (x.1.length : Int) then
 vmo (rd (Ty.zero tVersion) x.1 x.2.2.2) x.2.1 (fun y3 =>
 bif (decide (y3 < 0)) then
 k (.inr (.inl (x.1, y3, (-1 : Int), x.2.2.2)))
 else
 k (.inl (x.1, y3, x.2.2.1, (IntKind.wrap .i64 (x.2.2.2 + 1)))))
 else none
 else
 k (.inr (.inr (x.1, x.2.1, x.2.2.1, x.2.2.2)))
instance n17n_bp0 (x : q5T) : ParC (vha x) := by unfold vha; (try dsimp only); infer_instance
def vt0 (a0 : (List vaa)) (a1 : Int) (k : Int → Option Res) : Option Res :=
 bif (decide ((IntKind.wrap .i64 (a1 - (a0.length : Int))) < (0 : Int))) then
 k (-1 : Int)
 else
 vai vha Fuel (a0, (IntKind.wrap .i64 (a1 - (a0.length : Int))), 0, 0) (Sum.elim (fun z1 =>
 k z1.2.2.1) (fun z2 =>
 k z2.2.1))
def vnd := shut vt0
theorem vvz : vnd = vt0 := vay _
instance n17n_p (a0 : (List vaa)) (a1 : Int) : ParC (vnd a0 a1) := by rw [vvz]; unfold vt0; (try dsimp only); infer_instance
def vtk (a0 : vad) (a1 : Int) (k : Int → Option Res) : Option Res :=
 bif (decide ((IntKind.wrap .i64 (a1 - (a0.1.size : Int))) < (0 : Int))) then
 k (-1 : Int)
 else
 bif (decide ((IntKind.wrap .i64 ((IntKind.wrap .i64 (a1 - (a0.1.size : Int))) - (a0.2.1.size : Int))) < (0 : Int))) then
 k (-1 : Int)
 else
 k (IntKind.wrap .i64 ((IntKind.wrap .i64 (a1 - (a0.1.size : Int))) - (a0.2.1.size : Int)))
def vm2 := shut vtk
theorem vwa : vm2 = vtk := vay _
instance n18n_p (a0 : vad) (a1 : Int) : ParC (vm2 a0 a1) := by rw [vwa]; unfold vtk; (try dsimp only); infer_instance
def vgc (x : q10T) (k : q10T ⊕ (q10T ⊕ q10T) → Option Res) : Option Res :=
 bif (decide (x.2.2.2 < (x.1.length : Int))) then
 if 0 ≤ x.2.2.2 ∧ x.2.2.2 < (x.1.length : Int) then
 vm2 (rd (Ty.zero tWrite) x.1 x.2.2.2) x.2.1 (fun y3 =>
 bif (decide (y3 < 0)) then
 k (.inr (.inl (x.1, y3, (-1 : Int), x.2.2.2)))
 else
 k (.inl (x.1, y3, x.2.2.1, (IntKind.wrap .i64 (x.2.2.2 + 1)))))
 else none
 else
 k (.inr (.inr (x.1, x.2.1, x.2.2.1, x.2.2.2)))
instance n19n_bp0 (x : q10T) : ParC (vgc x) := by unfold vgc; (try dsimp only); infer_instance
def vtd (a0 : (List vad)) (a1 : Int) (k : Int → Option Res) : Option Res :=
 bif (decide ((IntKind.wrap .i64 (a1 - (a0.length : Int))) < (0 : Int))) then
 k (-1 : Int)
 else
 vai vgc Fuel (a0, (IntKind.wrap .i64 (a1 - (a0.length : Int))), 0, 0) (Sum.elim (fun z1 =>
 k z1.2.2.1) (fun z2 =>
 k z2.2.1))
def vno := shut vtd
theorem vwx : vno = vtd := vay _
instance n19n_p (a0 : (List vad)) (a1 : Int) : ParC (vno a0 a1) := by rw [vwx]; unfold vtd; (try dsimp only); infer_instance
def vxm (a0 : vaa) (k : q12T → Option Res) : Option Res :=
 k (a0.1, a0.2.1, a0.2.2.1, a0.2.2.2)
def vmu := shut vxm
theorem vxg : vmu = vxm := vay _
instance n20n_p (a0 : vaa) : ParC (vmu a0) := by rw [vxg]; unfold vxm; (try dsimp only); infer_instance
def vgq (x : q3T) (k : q3T ⊕ q3T → Option Res) : Option Res :=
 bif (decide (x.2.1 < (x.1.length : Int))) then
 if 0 ≤ x.2.1 ∧ x.2.1 < (x.1.length : Int) then
 vmu (rd (Ty.zero tVersion) x.1 x.2.1) (fun y2 =>
 if 0 ≤ x.2.1 ∧ x.2.1 < (x.2.2.length : Int) then
 k (.inl (x.1, (IntKind.wrap .i64 (x.2.1 + 1)), (x.2.2.set x.2.1.toNat y2)))
 else none)
 else none
 else
 k (.inr (x.1, x.2.1, x.2.2))
instance n21n_bp0 (x : q3T) : ParC (vgq x) := by unfold vgq; (try dsimp only); infer_instance
def vs8 (a0 : (List vaa)) (k : (List vaa) → Option Res) : Option Res :=
 if 0 ≤ (a0.length : Int) ∧ (a0.length : Int) ≤ (a0.length : Int) ∧ (a0.length : Int) ≤ (VE.maxLen : Int) then
 vai vgq Fuel (a0, 0, (List.replicate (a0.length : Int).toNat (Ty.zero tVersion))) (fun z1 =>
 k z1.2.2)
 else none
def ves := shut vs8
theorem vv5 : ves = vs8 := vay _
instance n21n_p (a0 : (List vaa)) : ParC (ves a0) := by rw [vv5]; unfold vs8; (try dsimp only); infer_instance
def vw4 (a0 : vad) (k : (ByteArray × ByteArray × Bool) → Option Res) : Option Res :=
 k (a0.1, a0.2.1, a0.2.2)
def vmw := shut vw4
theorem vvu : vmw = vw4 := vay _
instance n22n_p (a0 : vad) : ParC (vmw a0) := by rw [vvu]; unfold vw4; (try dsimp only); infer_instance
def vf7 (x : q7T) (k : q7T ⊕ q7T → Option Res) : Option Res :=
 bif (decide (x.2.1 < (x.1.length : Int))) then
 if 0 ≤ x.2.1 ∧ x.2.1 < (x.1.length : Int) then
 vmw (rd (Ty.zero tWrite) x.1 x.2.1) (fun y2 =>
 if 0 ≤ x.2.1 ∧ x.2.1 < (x.2.2.length : Int) then
 k (.inl (x.1, (IntKind.wrap .i64 (x.2.1 + 1)), (x.2.2.set x.2.1.toNat y2)))
 else none)
 else none
 else
 k (.inr (x.1, x.2.1, x.2.2))
instance n23n_bp0 (x : q7T) : ParC (vf7 x) := by unfold vf7; (try dsimp only); infer_instance
def vs5 (a0 : (List vad)) (k : (List vad) → Option Res) : Option Res :=
 if 0 ≤ (a0.length : Int) ∧ (a0.length : Int) ≤ (a0.length : Int) ∧ (a0.length : Int) ≤ (VE.maxLen : Int) then
 vai vf7 Fuel (a0, 0, (List.replicate (a0.length : Int).toNat (Ty.zero tWrite))) (fun z1 =>
 k z1.2.2)
 else none
def ve9 := shut vs5
theorem vvy : ve9 = vs5 := vay _
instance n23n_p (a0 : (List vad)) : ParC (ve9 a0) := by rw [vvy]; unfold vs5; (try dsimp only); infer_instance
def vbx (x : q9T) (k : q9T → Option Res) : Option Res :=
 let xh := x.2.2.2.2.2.2.2.2
 if 0 ≤ x.2.2.2.1 ∧ x.2.2.2.1 < (x.2.2.2.2.1.length : Int) then
 if xh.2.length + [(x.2.2.2.2.1.getD x.2.2.2.1.toNat (Ty.zero tVersion))].length ≤ VE.maxLen then
 k (x.1, x.2.1, x.2.2.1, (IntKind.wrap .i64 (x.2.2.2.1 + 1)), x.2.2.2.2.1, x.2.2.2.2.2.1, x.2.2.2.2.2.2.1, x.2.2.2.2.2.2.2.1, xh.1, (xh.2 ++ [(x.2.2.2.2.1.getD x.2.2.2.1.toNat (Ty.zero tVersion))]))
 else none
 else none
instance n26n_jp6000003 (x : q9T) : ParC (vbx x) := by unfold vbx; (try dsimp only); infer_instance
def vh4 (x : q9T) (k : q9T ⊕ q9T → Option Res) : Option Res :=
 let xh := x.2.2.2.2.2.2.2.2
 let t0 := (x.1, x.2.1, x.2.2.1, x.2.2.2.1, x.2.2.2.2.1, x.2.2.2.2.2.1, x.2.2.2.2.2.2.1, x.2.2.2.2.2.2.2.1, xh.1, xh.2)
 let t1 := (x.2.2.2.2.1.getD x.2.2.2.1.toNat (Ty.zero tVersion))
 bif (decide (x.2.2.2.1 < (x.2.2.2.2.1.length : Int))) then
 if 0 ≤ x.2.2.2.1 ∧ x.2.2.2.1 < (x.2.2.2.2.1.length : Int) then
 bif (vax (t1.1) x.2.2.2.2.2.1) then
 vbx t0 (fun z3 =>
 let z3h := z3.2.2.2.2.2.2.2.2
 k (.inl (z3.1, z3.2.1, z3.2.2.1, z3.2.2.2.1, z3.2.2.2.2.1, z3.2.2.2.2.2.1, z3.2.2.2.2.2.2.1, z3.2.2.2.2.2.2.2.1, z3h.1, z3h.2)))
 else
 if 0 ≤ x.2.2.2.1 ∧ x.2.2.2.1 < (x.2.2.2.2.1.length : Int) then
 bif (vci (t1.1) x.2.2.2.2.2.1) then
 if 0 ≤ x.2.2.2.1 ∧ x.2.2.2.1 < (x.2.2.2.2.1.length : Int) then
 bif (decide (t1.2.2.2 ≤ xh.1)) then
 vbx t0 (fun z4 =>
 let z4h := z4.2.2.2.2.2.2.2.2
 k (.inl (z4.1, z4.2.1, z4.2.2.1, z4.2.2.2.1, z4.2.2.2.2.1, z4.2.2.2.2.2.1, z4.2.2.2.2.2.2.1, z4.2.2.2.2.2.2.2.1, z4h.1, z4h.2)))
 else
 k (.inr t0)
 else none
 else
 k (.inr t0)
 else none
 else none
 else
 k (.inr t0)
instance n26n_bp2 (x : q9T) : ParC (vh4 x) := by unfold vh4; (try dsimp only); infer_instance
def vib (x : q8T) (k : q8T ⊕ q8T → Option Res) : Option Res :=
 bif (decide (x.2.2.1 < (x.1.length : Int))) then
 if 0 ≤ x.2.2.1 ∧ x.2.2.1 < (x.1.length : Int) then
 if 0 ≤ x.2.2.1 ∧ x.2.2.1 < (x.1.length : Int) then
 if 0 ≤ x.2.2.1 ∧ x.2.2.1 < (x.1.length : Int) then
 vai vh4 Fuel (x.1, x.2.1, x.2.2.1, 0, x.2.2.2, (rd (Ty.zero tWrite) x.1 x.2.2.1).1, (rd (Ty.zero tWrite) x.1 x.2.2.1).2.1, (rd (Ty.zero tWrite) x.1 x.2.2.1).2.2, x.2.1, ([] : List vaa)) (fun z2 =>
 let z2h := z2.2.2.2.2.2.2.2.2
 if z2h.2.length + [(z2.2.2.2.2.2.1, (z2.2.2.2.2.2.2.1, (z2.2.2.2.2.2.2.2.1, z2h.1)))].length ≤ VE.maxLen then
 if 0 ≤ z2.2.2.2.1 ∧ z2.2.2.2.1 ≤ (z2.2.2.2.2.1.length : Int) then
 if (z2h.2 ++ [(z2.2.2.2.2.2.1, (z2.2.2.2.2.2.2.1, (z2.2.2.2.2.2.2.2.1, z2h.1)))]).length + (z2.2.2.2.2.1.drop z2.2.2.2.1.toNat).length ≤ VE.maxLen then
 k (.inl (z2.1, z2.2.1, (IntKind.wrap .i64 (z2.2.2.1 + 1)), ((z2h.2 ++ [(z2.2.2.2.2.2.1, (z2.2.2.2.2.2.2.1, (z2.2.2.2.2.2.2.2.1, z2h.1)))]) ++ (z2.2.2.2.2.1.drop z2.2.2.2.1.toNat))))
 else none
 else none
 else none)
 else none
 else none
 else none
 else
 k (.inr (x.1, x.2.1, x.2.2.1, x.2.2.2))
instance n26n_bp0 (x : q8T) : ParC (vib x) := by unfold vib; (try dsimp only); infer_instance
def vs9 (a0 : (List vaa)) (a1 : (List vad)) (a2 : Int) (k : (List vaa) → Option Res) : Option Res :=
 if ([] : List vaa).length + a0.length ≤ VE.maxLen then
 vai vib Fuel (a1, a2, 0, (([] : List vaa) ++ a0)) (fun z1 =>
 k z1.2.2.2)
 else none
def vnx := shut vs9
theorem vxa : vnx = vs9 := vay _
instance n26n_p (a0 : (List vaa)) (a1 : (List vad)) (a2 : Int) : ParC (vnx a0 a1 a2) := by rw [vxa]; unfold vs9; (try dsimp only); infer_instance
def vt2 (a0 : ByteArray) (k : Bool → Option Res) : Option Res :=
 k (!(vci a0 a0))
def vpv := shut vt2
theorem vvt : vpv = vt2 := vay _
instance n03n_p (a0 : ByteArray) : ParC (vpv a0) := by rw [vvt]; unfold vt2; (try dsimp only); infer_instance
def vt5 (a0 : ByteArray) (a1 : ByteArray) (k : Int → Option Res) : Option Res :=
 vpv a0 (fun y1 =>
 vpv a1 (fun y2 =>
 bif y1 then
 bif y2 then
 k (0 : Int)
 else
 k (-1 : Int)
 else
 bif y2 then
 k (1 : Int)
 else
 bif (vax a0 a1) then
 k (-1 : Int)
 else
 bif (!((vax a0 a1) || (vci a0 a1))) then
 k (1 : Int)
 else
 k (0 : Int)))
def vpq := shut vt5
theorem vv8 : vpq = vt5 := vay _
instance n01n_p (a0 : ByteArray) (a1 : ByteArray) : ParC (vpq a0 a1) := by rw [vv8]; unfold vt5; (try dsimp only); infer_instance
def vsx (a0 : Int) (k : Bool → Option Res) : Option Res :=
 k (a0 != a0)
def vpx := shut vsx
theorem vxu : vpx = vsx := vay _
instance n02n_p (a0 : Int) : ParC (vpx a0) := by rw [vxu]; unfold vsx; (try dsimp only); infer_instance
def vtz (a0 : Int) (a1 : Int) (k : Int → Option Res) : Option Res :=
 vpx a0 (fun y1 =>
 vpx a1 (fun y2 =>
 bif y1 then
 bif y2 then
 k (0 : Int)
 else
 k (-1 : Int)
 else
 bif y2 then
 k (1 : Int)
 else
 bif (decide (a0 < a1)) then
 k (-1 : Int)
 else
 bif (decide (a0 > a1)) then
 k (1 : Int)
 else
 k (0 : Int)))
def vqq := shut vtz
theorem vxr : vqq = vtz := vay _
instance n00n_p (a0 : Int) (a1 : Int) : ParC (vqq a0 a1) := by rw [vxr]; unfold vtz; (try dsimp only); infer_instance
def vto (a0 : vaa) (a1 : vaa) (k : Int → Option Res) : Option Res :=
 vpq a0.1 a1.1 (fun y1 =>
 bif (y1 != (0 : Int)) then
 k y1
 else
 vqq a0.2.2.2 a1.2.2.2 (fun y2 =>
 k y2))
def vpz := shut vto
theorem vvv : vpz = vto := vay _
instance n06n_p (a0 : vaa) (a1 : vaa) : ParC (vpz a0 a1) := by rw [vvv]; unfold vto; (try dsimp only); infer_instance
def vt6 (a0 : vaa) (a1 : ByteArray) (a2 : ByteArray) (a3 : Bool) (a4 : Int) (k : q11T → Option Res) : Option Res :=
 vpz a0 (a1, (a2, (a3, a4))) (fun y1 =>
 k ((decide (y1 > 0)), a1, a2, a3, a4))
def vqo := shut vt6
theorem vv1 : vqo = vt6 := vay _
instance n05n_p (a0 : vaa) (a1 : ByteArray) (a2 : ByteArray) (a3 : Bool) (a4 : Int) : ParC (vqo a0 a1 a2 a3 a4) := by rw [vv1]; unfold vt6; (try dsimp only); infer_instance
def vgi (x : q4T) (k : q4T ⊕ (q4T ⊕ q4T) → Option Res) : Option Res :=
 bif (decide (x.2.2.2.1 < x.2.2.1)) then
 if 0 ≤ x.2.2.2.1 ∧ x.2.2.2.1 < (x.1.length : Int) then
 vqo (rd (Ty.zero tVersion) x.1 x.2.2.2.1) x.2.2.2.2.1 x.2.2.2.2.2.1 x.2.2.2.2.2.2.1 x.2.2.2.2.2.2.2 (fun y3 =>
 bif y3.1 then
 k (.inr (.inl (x.1, x.2.2.2.1, x.2.2.1, x.2.2.2.1, y3.2.1, y3.2.2.1, y3.2.2.2.1, y3.2.2.2.2)))
 else
 k (.inl (x.1, x.2.1, x.2.2.1, (IntKind.wrap .i64 (x.2.2.2.1 + 1)), y3.2.1, y3.2.2.1, y3.2.2.2.1, y3.2.2.2.2)))
 else none
 else
 k (.inr (.inr (x.1, x.2.1, x.2.2.1, x.2.2.2.1, x.2.2.2.2.1, x.2.2.2.2.2.1, x.2.2.2.2.2.2.1, x.2.2.2.2.2.2.2)))
instance n24n_bp0 (x : q4T) : ParC (vgi x) := by unfold vgi; (try dsimp only); infer_instance
def vsv (a0 : (List vaa)) (a1 : ByteArray) (a2 : ByteArray) (a3 : Bool) (a4 : Int) (k : q14T → Option Res) : Option Res :=
 vai vgi Fuel (a0, 0, (a0.length : Int), 0, a1, a2, a3, a4) (Sum.elim (fun z1 =>
 k (z1.2.1, z1.2.2.2.2.1, z1.2.2.2.2.2.1, z1.2.2.2.2.2.2.1, z1.2.2.2.2.2.2.2)) (fun z2 =>
 k ((-1 : Int), z2.2.2.2.2.1, z2.2.2.2.2.2.1, z2.2.2.2.2.2.2.1, z2.2.2.2.2.2.2.2)))
def vnv := shut vsv
theorem vw1 : vnv = vsv := vay _
instance n24n_p (a0 : (List vaa)) (a1 : ByteArray) (a2 : ByteArray) (a3 : Bool) (a4 : Int) : ParC (vnv a0 a1 a2 a3 a4) := by rw [vw1]; unfold vsv; (try dsimp only); infer_instance
def vqx (a0 : Int) (a1 : (List vaa)) (a2 : (List vaa)) (k : q1T → Option Res) : Option Res :=
 if 0 ≤ a0 ∧ a0 ≤ (a1.length : Int) ∧ 0 < a2.length ∧ a1.length + a2.length ≤ 1073741824 then
 k (a2, (insL a1 a0 a2))
 else none
def vj2 := shut vqx
theorem vw3 : vj2 = vqx := vay _
instance n25n_p (a0 : Int) (a1 : (List vaa)) (a2 : (List vaa)) : ParC (vj2 a0 a1 a2) := by rw [vw3]; unfold vqx; (try dsimp only); infer_instance
def vgd (x : q13T) (k : q13T ⊕ q13T → Option Res) : Option Res :=
 bif (decide (x.2.2.2.1 < x.2.2.1)) then
 if 0 ≤ x.2.2.2.1 ∧ x.2.2.2.1 < (x.2.1.length : Int) then
 vnv x.2.2.2.2 ((rd (Ty.zero tWrite) x.2.1 x.2.2.2.1).1) ((rd (Ty.zero tWrite) x.2.1 x.2.2.2.1).2.1) ((rd (Ty.zero tWrite) x.2.1 x.2.2.2.1).2.2) x.1 (fun y2 =>
 bif (decide (y2.1 < 0)) then
 vj2 (x.2.2.2.2.length : Int) x.2.2.2.2 [y2.2] (fun y3 =>
 k (.inl (x.1, x.2.1, x.2.2.1, (IntKind.wrap .i64 (x.2.2.2.1 + 1)), y3.2)))
 else
 vj2 y2.1 x.2.2.2.2 [y2.2] (fun y4 =>
 k (.inl (x.1, x.2.1, x.2.2.1, (IntKind.wrap .i64 (x.2.2.2.1 + 1)), y4.2))))
 else none
 else
 k (.inr (x.1, x.2.1, x.2.2.1, x.2.2.2.1, x.2.2.2.2))
instance n04n_bp0 (x : q13T) : ParC (vgd x) := by unfold vgd; (try dsimp only); infer_instance
def vst (a0 : (List vaa)) (a1 : (List vad)) (a2 : Int) (k : (List vaa) → Option Res) : Option Res :=
 if a0.length ≤ VE.maxLen then
 vai vgd Fuel (a2, a1, (a1.length : Int), 0, a0) (fun z1 =>
 k z1.2.2.2.2)
 else none
def vix := shut vst
theorem vws : vix = vst := vay _
instance n04n_p (a0 : (List vaa)) (a1 : (List vad)) (a2 : Int) : ParC (vix a0 a1 a2) := by rw [vws]; unfold vst; (try dsimp only); infer_instance
def vsw (a0 : vaa) (a1 : vaa) (k : Bool → Option Res) : Option Res :=
 bif (!(vci a0.1 a1.1)) then
 k false
 else
 bif (!(vci a0.2.1 a1.2.1)) then
 k false
 else
 bif (!(a0.2.2.1 == a1.2.2.1)) then
 k false
 else
 bif (a0.2.2.2 != a1.2.2.2) then
 k false
 else
 k true
def vnn := shut vsw
theorem vxb : vnn = vsw := vay _
instance n08n_p (a0 : vaa) (a1 : vaa) : ParC (vnn a0 a1) := by rw [vxb]; unfold vsw; (try dsimp only); infer_instance
def vgn (x : q0T) (k : q0T ⊕ (q0T ⊕ q0T) → Option Res) : Option Res :=
 bif (decide (x.2.2.2 < (x.1.length : Int))) then
 if 0 ≤ x.2.2.2 ∧ x.2.2.2 < (x.1.length : Int) then
 if 0 ≤ x.2.2.2 ∧ x.2.2.2 < (x.2.1.length : Int) then
 vnn (rd (Ty.zero tVersion) x.1 x.2.2.2) (rd (Ty.zero tVersion) x.2.1 x.2.2.2) (fun y3 =>
 bif (!y3) then
 k (.inr (.inl (x.1, x.2.1, false, x.2.2.2)))
 else
 k (.inl (x.1, x.2.1, x.2.2.1, (IntKind.wrap .i64 (x.2.2.2 + 1)))))
 else none
 else none
 else
 k (.inr (.inr (x.1, x.2.1, x.2.2.1, x.2.2.2)))
instance n09n_bp0 (x : q0T) : ParC (vgn x) := by unfold vgn; (try dsimp only); infer_instance
def vty (a0 : (List vaa)) (a1 : (List vaa)) (k : Bool → Option Res) : Option Res :=
 bif ((a0.length : Int) != (a1.length : Int)) then
 k false
 else
 vai vgn Fuel (a0, a1, false, 0) (Sum.elim (fun z1 =>
 k z1.2.2.1) (fun _ =>
 k true))
def vew := shut vty
theorem vv2 : vew = vty := vay _
instance n09n_p (a0 : (List vaa)) (a1 : (List vaa)) : ParC (vew a0 a1) := by rw [vv2]; unfold vty; (try dsimp only); infer_instance
def vtp (a0 : vad) (a1 : vad) (k : Bool → Option Res) : Option Res :=
 bif (!(vci a0.1 a1.1)) then
 k false
 else
 bif (!(vci a0.2.1 a1.2.1)) then
 k false
 else
 bif (!(a0.2.2 == a1.2.2)) then
 k false
 else
 k true
def vmj := shut vtp
theorem vvr : vmj = vtp := vay _
instance n10n_p (a0 : vad) (a1 : vad) : ParC (vmj a0 a1) := by rw [vvr]; unfold vtp; (try dsimp only); infer_instance
def vgt (x : q6T) (k : q6T ⊕ (q6T ⊕ q6T) → Option Res) : Option Res :=
 bif (decide (x.2.2.2 < (x.1.length : Int))) then
 if 0 ≤ x.2.2.2 ∧ x.2.2.2 < (x.1.length : Int) then
 if 0 ≤ x.2.2.2 ∧ x.2.2.2 < (x.2.1.length : Int) then
 vmj (rd (Ty.zero tWrite) x.1 x.2.2.2) (rd (Ty.zero tWrite) x.2.1 x.2.2.2) (fun y3 =>
 bif (!y3) then
 k (.inr (.inl (x.1, x.2.1, false, x.2.2.2)))
 else
 k (.inl (x.1, x.2.1, x.2.2.1, (IntKind.wrap .i64 (x.2.2.2 + 1)))))
 else none
 else none
 else
 k (.inr (.inr (x.1, x.2.1, x.2.2.1, x.2.2.2)))
instance n11n_bp0 (x : q6T) : ParC (vgt x) := by unfold vgt; (try dsimp only); infer_instance
def vth (a0 : (List vad)) (a1 : (List vad)) (k : Bool → Option Res) : Option Res :=
 bif ((a0.length : Int) != (a1.length : Int)) then
 k false
 else
 vai vgt Fuel (a0, a1, false, 0) (Sum.elim (fun z1 =>
 k z1.2.2.1) (fun _ =>
 k true))
def vl5 := shut vth
theorem vwb : vl5 = vth := vay _
instance n11n_p (a0 : (List vad)) (a1 : (List vad)) : ParC (vl5 a0 a1) := by rw [vwb]; unfold vth; (try dsimp only); infer_instance
def vin (x : (Int × ByteArray)) (k : (Int × ByteArray) ⊕ (Int × ByteArray) → Option Res) : Option Res :=
 bif (decide (x.1 > 0)) then
 if (vic [(IntKind.wrap .u8 (IntKind.wrap .i64 ((48 : Int) + (x.1.tmod (10 : Int)))))]).size + x.2.size ≤ 1099511627776 then
 k (.inl ((IntKind.wrap .i64 (x.1.tdiv (10 : Int))), ((vic [(IntKind.wrap .u8 (IntKind.wrap .i64 ((48 : Int) + (x.1.tmod (10 : Int)))))]) ++ x.2)))
 else none
 else
 k (.inr (x.1, x.2))
instance n13n_bp0 (x : (Int × ByteArray)) : ParC (vin x) := by unfold vin; (try dsimp only); infer_instance
def vt8 (a0 : Int) (k : ByteArray → Option Res) : Option Res :=
 bif (decide (a0 ≤ 0)) then
 k (⟨#[109, 48]⟩ : ByteArray)
 else
 vai vin Fuel (a0, (⟨#[]⟩ : ByteArray)) (fun z1 =>
 if (⟨#[109]⟩ : ByteArray).size + z1.2.size ≤ 1099511627776 then
 k ((⟨#[109]⟩ : ByteArray) ++ z1.2)
 else none)
def vds := shut vt8
theorem vvn : vds = vt8 := vay _
instance n13n_p (a0 : Int) : ParC (vds a0) := by rw [vvn]; unfold vt8; (try dsimp only); infer_instance
def vg5 (x : (Int × Int × (List vaa))) (k : (Int × Int × (List vaa)) ⊕ (Int × Int × (List vaa)) → Option Res) : Option Res :=
 let t0 := (x.2.2.getD x.2.1.toNat (Ty.zero tVersion))
 let t1 := (IntKind.wrap .i64 ((IntKind.wrap .i64 (x.1 + (1 : Int))) + (1 : Int)))
 let t2 := ((t1.tmod (3 : Int)) == (0 : Int))
 bif (decide (x.2.1 < (x.2.2.length : Int))) then
 vds x.1 (fun y2 =>
 if 0 ≤ x.2.1 ∧ x.2.1 < (x.2.2.length : Int) then
 vds (IntKind.wrap .i64 (x.1 + 1)) (fun y3 =>
 if 0 ≤ x.2.1 ∧ x.2.1 < ((x.2.2.set x.2.1.toNat (y2, t0.2)).length : Int) then
 if 0 ≤ x.2.1 ∧ x.2.1 < (((x.2.2.set x.2.1.toNat (y2, t0.2)).set x.2.1.toNat (((x.2.2.set x.2.1.toNat (y2, t0.2)).getD x.2.1.toNat (Ty.zero tVersion)).1, (y3, ((x.2.2.set x.2.1.toNat (y2, t0.2)).getD x.2.1.toNat (Ty.zero tVersion)).2.2))).length : Int) then
 if 0 ≤ x.2.1 ∧ x.2.1 < ((((x.2.2.set x.2.1.toNat (y2, t0.2)).set x.2.1.toNat (((x.2.2.set x.2.1.toNat (y2, t0.2)).getD x.2.1.toNat (Ty.zero tVersion)).1, (y3, ((x.2.2.set x.2.1.toNat (y2, t0.2)).getD x.2.1.toNat (Ty.zero tVersion)).2.2))).set x.2.1.toNat ((((x.2.2.set x.2.1.toNat (y2, t0.2)).set x.2.1.toNat (((x.2.2.set x.2.1.toNat (y2, t0.2)).getD x.2.1.toNat (Ty.zero tVersion)).1, (y3, ((x.2.2.set x.2.1.toNat (y2, t0.2)).getD x.2.1.toNat (Ty.zero tVersion)).2.2))).getD x.2.1.toNat (Ty.zero tVersion)).1, ((((x.2.2.set x.2.1.toNat (y2, t0.2)).set x.2.1.toNat (((x.2.2.set x.2.1.toNat (y2, t0.2)).getD x.2.1.toNat (Ty.zero tVersion)).1, (y3, ((x.2.2.set x.2.1.toNat (y2, t0.2)).getD x.2.1.toNat (Ty.zero tVersion)).2.2))).getD x.2.1.toNat (Ty.zero tVersion)).2.1, (t2, (((x.2.2.set x.2.1.toNat (y2, t0.2)).set x.2.1.toNat (((x.2.2.set x.2.1.toNat (y2, t0.2)).getD x.2.1.toNat (Ty.zero tVersion)).1, (y3, ((x.2.2.set x.2.1.toNat (y2, t0.2)).getD x.2.1.toNat (Ty.zero tVersion)).2.2))).getD x.2.1.toNat (Ty.zero tVersion)).2.2.2)))).length : Int) then
 k (.inl ((IntKind.wrap .i64 ((IntKind.wrap .i64 (t1 + 1)) + 1)), (IntKind.wrap .i64 (x.2.1 + 1)), ((((x.2.2.set x.2.1.toNat (y2, t0.2)).set x.2.1.toNat (((x.2.2.set x.2.1.toNat (y2, t0.2)).getD x.2.1.toNat (Ty.zero tVersion)).1, (y3, ((x.2.2.set x.2.1.toNat (y2, t0.2)).getD x.2.1.toNat (Ty.zero tVersion)).2.2))).set x.2.1.toNat ((((x.2.2.set x.2.1.toNat (y2, t0.2)).set x.2.1.toNat (((x.2.2.set x.2.1.toNat (y2, t0.2)).getD x.2.1.toNat (Ty.zero tVersion)).1, (y3, ((x.2.2.set x.2.1.toNat (y2, t0.2)).getD x.2.1.toNat (Ty.zero tVersion)).2.2))).getD x.2.1.toNat (Ty.zero tVersion)).1, ((((x.2.2.set x.2.1.toNat (y2, t0.2)).set x.2.1.toNat (((x.2.2.set x.2.1.toNat (y2, t0.2)).getD x.2.1.toNat (Ty.zero tVersion)).1, (y3, ((x.2.2.set x.2.1.toNat (y2, t0.2)).getD x.2.1.toNat (Ty.zero tVersion)).2.2))).getD x.2.1.toNat (Ty.zero tVersion)).2.1, (t2, (((x.2.2.set x.2.1.toNat (y2, t0.2)).set x.2.1.toNat (((x.2.2.set x.2.1.toNat (y2, t0.2)).getD x.2.1.toNat (Ty.zero tVersion)).1, (y3, ((x.2.2.set x.2.1.toNat (y2, t0.2)).getD x.2.1.toNat (Ty.zero tVersion)).2.2))).getD x.2.1.toNat (Ty.zero tVersion)).2.2.2)))).set x.2.1.toNat (((((x.2.2.set x.2.1.toNat (y2, t0.2)).set x.2.1.toNat (((x.2.2.set x.2.1.toNat (y2, t0.2)).getD x.2.1.toNat (Ty.zero tVersion)).1, (y3, ((x.2.2.set x.2.1.toNat (y2, t0.2)).getD x.2.1.toNat (Ty.zero tVersion)).2.2))).set x.2.1.toNat ((((x.2.2.set x.2.1.toNat (y2, t0.2)).set x.2.1.toNat (((x.2.2.set x.2.1.toNat (y2, t0.2)).getD x.2.1.toNat (Ty.zero tVersion)).1, (y3, ((x.2.2.set x.2.1.toNat (y2, t0.2)).getD x.2.1.toNat (Ty.zero tVersion)).2.2))).getD x.2.1.toNat (Ty.zero tVersion)).1, ((((x.2.2.set x.2.1.toNat (y2, t0.2)).set x.2.1.toNat (((x.2.2.set x.2.1.toNat (y2, t0.2)).getD x.2.1.toNat (Ty.zero tVersion)).1, (y3, ((x.2.2.set x.2.1.toNat (y2, t0.2)).getD x.2.1.toNat (Ty.zero tVersion)).2.2))).getD x.2.1.toNat (Ty.zero tVersion)).2.1, (t2, (((x.2.2.set x.2.1.toNat (y2, t0.2)).set x.2.1.toNat (((x.2.2.set x.2.1.toNat (y2, t0.2)).getD x.2.1.toNat (Ty.zero tVersion)).1, (y3, ((x.2.2.set x.2.1.toNat (y2, t0.2)).getD x.2.1.toNat (Ty.zero tVersion)).2.2))).getD x.2.1.toNat (Ty.zero tVersion)).2.2.2)))).getD x.2.1.toNat (Ty.zero tVersion)).1, (((((x.2.2.set x.2.1.toNat (y2, t0.2)).set x.2.1.toNat (((x.2.2.set x.2.1.toNat (y2, t0.2)).getD x.2.1.toNat (Ty.zero tVersion)).1, (y3, ((x.2.2.set x.2.1.toNat (y2, t0.2)).getD x.2.1.toNat (Ty.zero tVersion)).2.2))).set x.2.1.toNat ((((x.2.2.set x.2.1.toNat (y2, t0.2)).set x.2.1.toNat (((x.2.2.set x.2.1.toNat (y2, t0.2)).getD x.2.1.toNat (Ty.zero tVersion)).1, (y3, ((x.2.2.set x.2.1.toNat (y2, t0.2)).getD x.2.1.toNat (Ty.zero tVersion)).2.2))).getD x.2.1.toNat (Ty.zero tVersion)).1, ((((x.2.2.set x.2.1.toNat (y2, t0.2)).set x.2.1.toNat (((x.2.2.set x.2.1.toNat (y2, t0.2)).getD x.2.1.toNat (Ty.zero tVersion)).1, (y3, ((x.2.2.set x.2.1.toNat (y2, t0.2)).getD x.2.1.toNat (Ty.zero tVersion)).2.2))).getD x.2.1.toNat (Ty.zero tVersion)).2.1, (t2, (((x.2.2.set x.2.1.toNat (y2, t0.2)).set x.2.1.toNat (((x.2.2.set x.2.1.toNat (y2, t0.2)).getD x.2.1.toNat (Ty.zero tVersion)).1, (y3, ((x.2.2.set x.2.1.toNat (y2, t0.2)).getD x.2.1.toNat (Ty.zero tVersion)).2.2))).getD x.2.1.toNat (Ty.zero tVersion)).2.2.2)))).getD x.2.1.toNat (Ty.zero tVersion)).2.1, (((((x.2.2.set x.2.1.toNat (y2, t0.2)).set x.2.1.toNat (((x.2.2.set x.2.1.toNat (y2, t0.2)).getD x.2.1.toNat (Ty.zero tVersion)).1, (y3, ((x.2.2.set x.2.1.toNat (y2, t0.2)).getD x.2.1.toNat (Ty.zero tVersion)).2.2))).set x.2.1.toNat ((((x.2.2.set x.2.1.toNat (y2, t0.2)).set x.2.1.toNat (((x.2.2.set x.2.1.toNat (y2, t0.2)).getD x.2.1.toNat (Ty.zero tVersion)).1, (y3, ((x.2.2.set x.2.1.toNat (y2, t0.2)).getD x.2.1.toNat (Ty.zero tVersion)).2.2))).getD x.2.1.toNat (Ty.zero tVersion)).1, ((((x.2.2.set x.2.1.toNat (y2, t0.2)).set x.2.1.toNat (((x.2.2.set x.2.1.toNat (y2, t0.2)).getD x.2.1.toNat (Ty.zero tVersion)).1, (y3, ((x.2.2.set x.2.1.toNat (y2, t0.2)).getD x.2.1.toNat (Ty.zero tVersion)).2.2))).getD x.2.1.toNat (Ty.zero tVersion)).2.1, (t2, (((x.2.2.set x.2.1.toNat (y2, t0.2)).set x.2.1.toNat (((x.2.2.set x.2.1.toNat (y2, t0.2)).getD x.2.1.toNat (Ty.zero tVersion)).1, (y3, ((x.2.2.set x.2.1.toNat (y2, t0.2)).getD x.2.1.toNat (Ty.zero tVersion)).2.2))).getD x.2.1.toNat (Ty.zero tVersion)).2.2.2)))).getD x.2.1.toNat (Ty.zero tVersion)).2.2.1, (IntKind.wrap .i64 (t1 + 1))))))))
 else none
 else none
 else none)
 else none)
 else
 k (.inr (x.1, x.2.1, x.2.2))
instance n14n_bp0 (x : (Int × Int × (List vaa))) : ParC (vg5 x) := by unfold vg5; (try dsimp only); infer_instance
def vtc (a0 : Int) (a1 : (List vaa)) (k : (Int × (List vaa)) → Option Res) : Option Res :=
 vai vg5 Fuel (a0, 0, a1) (fun z1 =>
 k (z1.1, z1.2.2))
def vj6 := shut vtc
theorem vv6 : vj6 = vtc := vay _
instance n14n_p (a0 : Int) (a1 : (List vaa)) : ParC (vj6 a0 a1) := by rw [vv6]; unfold vtc; (try dsimp only); infer_instance
def vh1 (x : (Int × Int × (List vad))) (k : (Int × Int × (List vad)) ⊕ (Int × Int × (List vad)) → Option Res) : Option Res :=
 let t0 := (x.2.2.getD x.2.1.toNat (Ty.zero tWrite))
 bif (decide (x.2.1 < (x.2.2.length : Int))) then
 vds x.1 (fun y2 =>
 if 0 ≤ x.2.1 ∧ x.2.1 < (x.2.2.length : Int) then
 vds (IntKind.wrap .i64 (x.1 + 1)) (fun y3 =>
 if 0 ≤ x.2.1 ∧ x.2.1 < ((x.2.2.set x.2.1.toNat (y2, t0.2)).length : Int) then
 if 0 ≤ x.2.1 ∧ x.2.1 < (((x.2.2.set x.2.1.toNat (y2, t0.2)).set x.2.1.toNat (((x.2.2.set x.2.1.toNat (y2, t0.2)).getD x.2.1.toNat (Ty.zero tWrite)).1, (y3, ((x.2.2.set x.2.1.toNat (y2, t0.2)).getD x.2.1.toNat (Ty.zero tWrite)).2.2))).length : Int) then
 k (.inl ((IntKind.wrap .i64 ((IntKind.wrap .i64 ((IntKind.wrap .i64 (x.1 + 1)) + 1)) + 1)), (IntKind.wrap .i64 (x.2.1 + 1)), (((x.2.2.set x.2.1.toNat (y2, t0.2)).set x.2.1.toNat (((x.2.2.set x.2.1.toNat (y2, t0.2)).getD x.2.1.toNat (Ty.zero tWrite)).1, (y3, ((x.2.2.set x.2.1.toNat (y2, t0.2)).getD x.2.1.toNat (Ty.zero tWrite)).2.2))).set x.2.1.toNat ((((x.2.2.set x.2.1.toNat (y2, t0.2)).set x.2.1.toNat (((x.2.2.set x.2.1.toNat (y2, t0.2)).getD x.2.1.toNat (Ty.zero tWrite)).1, (y3, ((x.2.2.set x.2.1.toNat (y2, t0.2)).getD x.2.1.toNat (Ty.zero tWrite)).2.2))).getD x.2.1.toNat (Ty.zero tWrite)).1, ((((x.2.2.set x.2.1.toNat (y2, t0.2)).set x.2.1.toNat (((x.2.2.set x.2.1.toNat (y2, t0.2)).getD x.2.1.toNat (Ty.zero tWrite)).1, (y3, ((x.2.2.set x.2.1.toNat (y2, t0.2)).getD x.2.1.toNat (Ty.zero tWrite)).2.2))).getD x.2.1.toNat (Ty.zero tWrite)).2.1, (((IntKind.wrap .i64 ((IntKind.wrap .i64 (x.1 + 1)) + 1)).tmod (3 : Int)) == (0 : Int)))))))
 else none
 else none)
 else none)
 else
 k (.inr (x.1, x.2.1, x.2.2))
instance n15n_bp0 (x : (Int × Int × (List vad))) : ParC (vh1 x) := by unfold vh1; (try dsimp only); infer_instance
def vts (a0 : Int) (a1 : (List vad)) (k : (Int × (List vad)) → Option Res) : Option Res :=
 vai vh1 Fuel (a0, 0, a1) (fun z1 =>
 k (z1.1, z1.2.2))
def vms := shut vts
theorem vv4 : vms = vts := vay _
instance n15n_p (a0 : Int) (a1 : (List vad)) : ParC (vms a0 a1) := by rw [vv4]; unfold vts; (try dsimp only); infer_instance
def vf3 (x : q5T) (k : q5T ⊕ (q5T ⊕ q5T) → Option Res) : Option Res :=
 let t0 := (IntKind.wrap .i64 ((IntKind.wrap .i64 (x.2.1 + (1 : Int))) + (1 : Int)))
 let t1 := (rd (Ty.zero tVersion) x.1 x.2.2.2)
 bif (decide (x.2.2.2 < (x.1.length : Int))) then
 if 0 ≤ x.2.2.2 ∧ x.2.2.2 < (x.1.length : Int) then
 vds x.2.1 (fun y3 =>
 bif (!(vci (t1.1) y3)) then
 k (.inr (.inl (x.1, x.2.1, (-1 : Int), x.2.2.2)))
 else
 if 0 ≤ x.2.2.2 ∧ x.2.2.2 < (x.1.length : Int) then
 vds (IntKind.wrap .i64 (x.2.1 + 1)) (fun y4 =>
 bif (!(vci (t1.2.1) y4)) then
 k (.inr (.inl (x.1, (IntKind.wrap .i64 (x.2.1 + 1)), (-1 : Int), x.2.2.2)))
 else
 if 0 ≤ x.2.2.2 ∧ x.2.2.2 < (x.1.length : Int) then
 bif (!(t1.2.2.1 == ((t0.tmod (3 : Int)) == (0 : Int)))) then
 k (.inr (.inl (x.1, t0, (-1 : Int), x.2.2.2)))
 else
 if 0 ≤ x.2.2.2 ∧ x.2.2.2 < (x.1.length : Int) then
 bif (t1.2.2.2 != (IntKind.wrap .i64 (t0 + 1))) then
 k (.inr (.inl (x.1, (IntKind.wrap .i64 (t0 + 1)), (-1 : Int), x.2.2.2)))
 else
 k (.inl (x.1, (IntKind.wrap .i64 ((IntKind.wrap .i64 (t0 + 1)) + 1)), x.2.2.1, (IntKind.wrap .i64 (x.2.2.2 + 1))))
 else none
 else none)
 else none)
 else none
 else
 k (.inr (.inr (x.1, x.2.1, x.2.2.1, x.2.2.2)))
instance n12n_bp0 (x : q5T) : ParC (vf3 x) := by unfold vf3; (try dsimp only); infer_instance
def vtj (a0 : (List vaa)) (a1 : Int) (k : Int → Option Res) : Option Res :=
 vai vf3 Fuel (a0, a1, 0, 0) (Sum.elim (fun z1 =>
 k z1.2.2.1) (fun z2 =>
 k z2.2.1))
def viq := shut vtj
theorem vww : viq = vtj := vay _
instance n12n_p (a0 : (List vaa)) (a1 : Int) : ParC (viq a0 a1) := by rw [vww]; unfold vtj; (try dsimp only); infer_instance
def vbu (x : q2T) (k : q2T → Option Res) : Option Res :=
 vj6 (1 : Int) x.2.2.2.2.2 (fun y18 =>
 viq y18.2 (1 : Int) (fun y19 =>
 bif (decide (y19 < 0)) then
 k (x.1, x.2.1, x.2.2.1, false, x.2.2.2.2.1, y18.2)
 else
 bif (y19 != y18.1) then
 k (x.1, x.2.1, x.2.2.1, false, x.2.2.2.2.1, y18.2)
 else
 ves x.1 (fun y20 =>
 ve9 x.2.1 (fun y21 =>
 vix y20 y21 x.2.2.1 (fun y22 =>
 vew y22 x.2.2.2.2.1 (fun y23 =>
 bif (!y23) then
 k (x.1, x.2.1, x.2.2.1, false, x.2.2.2.2.1, y18.2)
 else
 viq y18.2 (1 : Int) (fun y24 =>
 bif (decide (y24 < 0)) then
 k (x.1, x.2.1, x.2.2.1, false, x.2.2.2.2.1, y18.2)
 else
 bif (y24 != y18.1) then
 k (x.1, x.2.1, x.2.2.1, false, x.2.2.2.2.1, y18.2)
 else
 k (x.1, x.2.1, x.2.2.1, true, x.2.2.2.2.1, y18.2))))))))
instance n07n_jp5000023 (x : q2T) : ParC (vbu x) := by unfold vbu; (try dsimp only); exact ⟨((n14n_p _ _).p.bind fun y18 => ((n12n_p _ _).p.bind fun y19 => (vcs (vbj _) (vcs (vbj _) ((n21n_p _).p.bind fun y20 => ((n23n_p _).p.bind fun y21 => ((n04n_p _ _ _).p.bind fun y22 => ((n09n_p _ _).p.bind fun y23 => (vcs (vbj _) ((n12n_p _ _).p.bind fun y24 => (vcs (vbj _) (vcs (vbj _) (vbj _)))))))))))))⟩
def vs3 (a0 : (List vaa)) (a1 : (List vad)) (a2 : Int) (k : Bool → Option Res) : Option Res :=
 vnd a0 (1048576 : Int) (fun y1 =>
 bif (decide (y1 < 0)) then
 k true
 else
 vno a1 y1 (fun y2 =>
 bif (decide (y2 < 0)) then
 k true
 else
 ves a0 (fun y3 =>
 ve9 a1 (fun y4 =>
 vnx y3 y4 a2 (fun y5 =>
 ves a0 (fun y6 =>
 ve9 a1 (fun y7 =>
 vix y6 y7 a2 (fun y8 =>
 vew y8 y5 (fun y9 =>
 bif (!y9) then
 k false
 else
 ves a0 (fun y10 =>
 vew y6 y10 (fun y11 =>
 bif (!y11) then
 k false
 else
 ve9 a1 (fun y12 =>
 vl5 y7 y12 (fun y13 =>
 bif (!y13) then
 k false
 else
 vj6 (1 : Int) y6 (fun y14 =>
 vms y14.1 y7 (fun y15 =>
 bif (decide (y15.1 < 0)) then
 k false
 else
 vew y8 y5 (fun y16 =>
 bif (!y16) then
 k false
 else
 vbu (a0, a1, a2, false, y5, y8) (fun z17 =>
 k z17.2.2.2.1)))))))))))))))))
def vq2 := shut vs3
theorem vxe : vq2 = vs3 := vay _
instance n07n_p (a0 : (List vaa)) (a1 : (List vad)) (a2 : Int) : ParC (vq2 a0 a1 a2) := by rw [vxe]; unfold vs3; (try dsimp only); exact ⟨((n17n_p _ _).p.bind fun y1 => (vcs (vbj _) ((n19n_p _ _).p.bind fun y2 => (vcs (vbj _) ((n21n_p _).p.bind fun y3 => ((n23n_p _).p.bind fun y4 => ((n26n_p _ _ _).p.bind fun y5 => ((n21n_p _).p.bind fun y6 => ((n23n_p _).p.bind fun y7 => ((n04n_p _ _ _).p.bind fun y8 => ((n09n_p _ _).p.bind fun y9 => (vcs (vbj _) ((n21n_p _).p.bind fun y10 => ((n09n_p _ _).p.bind fun y11 => (vcs (vbj _) ((n23n_p _).p.bind fun y12 => ((n11n_p _ _).p.bind fun y13 => (vcs (vbj _) ((n14n_p _ _).p.bind fun y14 => ((n15n_p _ _).p.bind fun y15 => (vcs (vbj _) ((n09n_p _ _).p.bind fun y16 => (vcs (vbj _) ((n07n_jp5000023 _).p.bind fun z17 => (vbj _)))))))))))))))))))))))))⟩
def vzp (args : List AV) (st : St) (k : K1) : Option Res :=
 va4 [.agg [.str, .str, .bool, .i], .i] [] args st (fun p q => vmo (p.1.1, (p.1.2.1, (p.1.2.2.1, p.1.2.2.2.1))) p.2.1 (fun (y : Int) => k (.i y) []))
 (none)
def vzo (args : List AV) (st : St) (k : K1) : Option Res :=
 va4 [.lst tVersion, .i] [] args st (fun p q => vnd p.1 p.2.1 (fun (y : Int) => k (.i y) []))
 (none)
def v0a (args : List AV) (st : St) (k : K1) : Option Res :=
 va4 [.agg [.str, .str, .bool], .i] [] args st (fun p q => vm2 (p.1.1, (p.1.2.1, p.1.2.2.1)) p.2.1 (fun (y : Int) => k (.i y) []))
 (none)
def vzu (args : List AV) (st : St) (k : K1) : Option Res :=
 va4 [.lst tWrite, .i] [] args st (fun p q => vno p.1 p.2.1 (fun (y : Int) => k (.i y) []))
 (none)
def vzs (args : List AV) (st : St) (k : K1) : Option Res :=
 va4 [.agg [.str, .str, .bool, .i]] [] args st (fun p q => vmu (p.1.1, (p.1.2.1, (p.1.2.2.1, p.1.2.2.2.1))) (fun (y : q12T) => k (.agg [.str y.1, .str y.2.1, .bool y.2.2.1, .i y.2.2.2]) []))
 (none)
def v0g (args : List AV) (st : St) (k : K1) : Option Res :=
 va4 [.lst tVersion] [] args st (fun p q => ves p.1 (fun (y : (List vaa)) => k (.own 0) [.arr tVersion y]))
 (none)
def vz3 (args : List AV) (st : St) (k : K1) : Option Res :=
 va4 [.agg [.str, .str, .bool]] [] args st (fun p q => vmw (p.1.1, (p.1.2.1, p.1.2.2.1)) (fun (y : (ByteArray × ByteArray × Bool)) => k (.agg [.str y.1, .str y.2.1, .bool y.2.2]) []))
 (none)
def vz6 (args : List AV) (st : St) (k : K1) : Option Res :=
 va4 [.lst tWrite] [] args st (fun p q => ve9 p.1 (fun (y : (List vad)) => k (.own 0) [.arr tWrite y]))
 (none)
def vz2 (args : List AV) (st : St) (k : K1) : Option Res :=
 va4 [.lst tVersion, .lst tWrite, .i] [] args st (fun p q => vnx p.1 p.2.1 p.2.2.1 (fun (y : (List vaa)) => k (.own 0) [.arr tVersion y]))
 (none)
def vz1 (args : List AV) (st : St) (k : K1) : Option Res :=
 va4 [.str] [] args st (fun p q => vpv p.1 (fun (y : Bool) => k (.bool y) []))
 (none)
def vz4 (args : List AV) (st : St) (k : K1) : Option Res :=
 va4 [.str, .str] [] args st (fun p q => vpq p.1 p.2.1 (fun (y : Int) => k (.i y) []))
 (none)
def vz9 (args : List AV) (st : St) (k : K1) : Option Res :=
 va4 [.i] [] args st (fun p q => vpx p.1 (fun (y : Bool) => k (.bool y) []))
 (none)
def vzx (args : List AV) (st : St) (k : K1) : Option Res :=
 va4 [.i, .i] [] args st (fun p q => vqq p.1 p.2.1 (fun (y : Int) => k (.i y) []))
 (none)
def vz5 (args : List AV) (st : St) (k : K1) : Option Res :=
 va4 [.agg [.str, .str, .bool, .i], .agg [.str, .str, .bool, .i]] [] args st (fun p q => vpz (p.1.1, (p.1.2.1, (p.1.2.2.1, p.1.2.2.2.1))) (p.2.1.1, (p.2.1.2.1, (p.2.1.2.2.1, p.2.1.2.2.2.1))) (fun (y : Int) => k (.i y) []))
 (none)
def vzv (args : List AV) (st : St) (k : K1) : Option Res :=
 va4 [.agg [.str, .str, .bool, .i], .bp 0 0] [.box [.str, .str, .bool, .i]] args st (fun p q => vqo (p.1.1, (p.1.2.1, (p.1.2.2.1, p.1.2.2.2.1))) q.1.1 q.1.2.1 q.1.2.2.1 q.1.2.2.2.1 (fun (y : q11T) => k (.bool y.1) [.box [.str y.2.1, .str y.2.2.1, .bool y.2.2.2.1, .i y.2.2.2.2]]))
 (none)
def vby (args : List AV) (st : St) (k : K1) : Option Res :=
 va4 [.lst tVersion, .fn 78 [.bp 0 0]] [.box [.str, .str, .bool, .i]] args st (fun p q => vnv p.1 q.1.1 q.1.2.1 q.1.2.2.1 q.1.2.2.2.1 (fun (y : q14T) => k (.i y.1) [.box [.str y.2.1, .str y.2.2.1, .bool y.2.2.2.1, .i y.2.2.2.2]]))
 (none)
def vbi (args : List AV) (st : St) (k : K1) : Option Res :=
 va4 [.own 0, .i, .own 1] [.arr tVersion, .arr tVersion] args st (fun p q => vj2 p.2.1 q.1 q.2.1 (fun (y : q1T) => k (.own 2) [.gone, .arr tVersion y.1, .arr tVersion y.2]))
 (none)
def vz8 (args : List AV) (st : St) (k : K1) : Option Res :=
 va4 [.lst tVersion, .lst tWrite, .i] [] args st (fun p q => vix p.1 p.2.1 p.2.2.1 (fun (y : (List vaa)) => k (.own 0) [.arr tVersion y]))
 (none)
def v0d (args : List AV) (st : St) (k : K1) : Option Res :=
 va4 [.agg [.str, .str, .bool, .i], .agg [.str, .str, .bool, .i]] [] args st (fun p q => vnn (p.1.1, (p.1.2.1, (p.1.2.2.1, p.1.2.2.2.1))) (p.2.1.1, (p.2.1.2.1, (p.2.1.2.2.1, p.2.1.2.2.2.1))) (fun (y : Bool) => k (.bool y) []))
 (none)
def vzn (args : List AV) (st : St) (k : K1) : Option Res :=
 va4 [.lst tVersion, .lst tVersion] [] args st (fun p q => vew p.1 p.2.1 (fun (y : Bool) => k (.bool y) []))
 (none)
def vz7 (args : List AV) (st : St) (k : K1) : Option Res :=
 va4 [.agg [.str, .str, .bool], .agg [.str, .str, .bool]] [] args st (fun p q => vmj (p.1.1, (p.1.2.1, p.1.2.2.1)) (p.2.1.1, (p.2.1.2.1, p.2.1.2.2.1)) (fun (y : Bool) => k (.bool y) []))
 (none)
def vz0 (args : List AV) (st : St) (k : K1) : Option Res :=
 va4 [.lst tWrite, .lst tWrite] [] args st (fun p q => vl5 p.1 p.2.1 (fun (y : Bool) => k (.bool y) []))
 (none)
def vzt (args : List AV) (st : St) (k : K1) : Option Res :=
 va4 [.i] [] args st (fun p q => vds p.1 (fun (y : ByteArray) => k (.str y) []))
 (none)
def vdv (args : List AV) (st : St) (k : K1) : Option Res :=
 va4 [.own 0, .i] [.arr tVersion] args st (fun p q => vj6 p.2.1 q.1 (fun (y : (Int × (List vaa))) => k (.i y.1) [.arr tVersion y.2]))
 (none)
def ve1 (args : List AV) (st : St) (k : K1) : Option Res :=
 va4 [.own 0, .i] [.arr tWrite] args st (fun p q => vms p.2.1 q.1 (fun (y : (Int × (List vad))) => k (.i y.1) [.arr tWrite y.2]))
 (none)
def vzq (args : List AV) (st : St) (k : K1) : Option Res :=
 va4 [.lst tVersion, .i] [] args st (fun p q => viq p.1 p.2.1 (fun (y : Int) => k (.i y) []))
 (none)
def vxd (args : List AV) (st : St) (k : K1) : Option Res :=
 va4 [.lst tVersion, .lst tWrite, .i] [] args st (fun p q => vq2 p.1 p.2.1 p.2.2.1 (fun (y : Bool) => k (.bool y) []))
 (none)
end
end Go.VE
