/- Native programs of the functions, written by gen.py. -/
import Derived.Test.YtiajamilfgkecaaT0
import Derived.Test.YtiajamilfgkecaaU28
import Derived.Test.YtiajamilfgkecaaU29
namespace Go.VE
noncomputable section
set_option linter.unusedVariables false
set_option linter.unusedSimpArgs false
set_option maxRecDepth 100000
abbrev q0T : Type := ((List Int) × Bool × Int × (List vaa) × (List vak) × (List vaa))
abbrev q1T : Type := ((List Int) × Int × Int × (List vaa))
abbrev q2T : Type := ((List Int) × Int × Int × (List vak))
abbrev q3T : Type := ((List vca) × (List vca) × Bool × Int)
abbrev q4T : Type := ((List vaa) × (List vaa))
abbrev q5T : Type := ((List vaa) × Bool × (List vaa) × Int × Int)
abbrev q6T : Type := ((List vaa) × ByteArray × Int × Int × (List vaa) × Int × Int)
abbrev q7T : Type := ((List vaa) × ByteArray × Int × Int × Int)
abbrev q8T : Type := ((List vaa) × Int × Int × (List ByteArray))
abbrev q9T : Type := ((List vaa) × Int × Int × Int × ByteArray × ByteArray × (List vca) × (List ByteArray))
abbrev q10T : Type := ((List vaa) × Int × Int × Int × ByteArray × ByteArray × Bool × Int)
abbrev q11T : Type := ((List vak) × Int × ByteArray × ByteArray × Bool × (List vak))
abbrev q12T : Type := ((List vak) × Int × Int × (List vaa))
abbrev q13T : Type := ((List vak) × Int × Int × Int × (List vaa) × ByteArray × ByteArray × Bool × Int × (List vaa))
abbrev q14T : Type := (Bool × ByteArray × ByteArray × Bool × Int)
abbrev q15T : Type := (ByteArray × (List Int) × Int × Int)
abbrev q16T : Type := (ByteArray × ByteArray × Bool × (List Int) × Int × Int)
abbrev q17T : Type := (ByteArray × Int × (List vaa))
abbrev q18T : Type := (Int × (List ByteArray) × (List ByteArray))
abbrev q19T : Type := (Int × (List Int) × Int × Int × (List vaa))
abbrev q20T : Type := (Int × (List Int) × Int × Int × (List vak))
abbrev q21T : Type := (Int × (List vak) × Int × Int × (List vaa))
abbrev q22T : Type := (Int × ByteArray × ByteArray × Bool × Int)
def vzn (a0 : (List Int)) (k : Bool → Option Res) : Option Res :=
 k (decide ((a0.length : Int) > (1048576 : Int)))
def vnw := shut vzn
theorem vy9 : vnw = vzn := vaj _
instance n17n_p (a0 : (List Int)) : ParC (vnw a0) := by rw [vy9]; unfold vzn; (try dsimp only); infer_instance
def vdd (x : ((List Int) × Int × Int)) (k : ((List Int) × Int × Int) → Option Res) : Option Res :=
 if 0 ≤ x.2.2 ∧ x.2.2 < (x.1.length : Int) then
 k (x.1, (IntKind.wrap .i64 (BitVec.ofInt (IntKind.bits .i64) (IntKind.wrap .i64 ((IntKind.wrap .i64 ((IntKind.wrap .i64 (x.2.1 * (131 : Int))) + (IntKind.wrap .i64 (rd (Ty.zero (.int .u8)) x.1 x.2.2)))) + 7)) &&& BitVec.ofInt (IntKind.bits .i64) (1073741823 : Int)).toNat), (IntKind.wrap .i64 (x.2.2 + 1)))
 else none
instance n32n_jp6000001 (x : ((List Int) × Int × Int)) : ParC (vdd x) := by unfold vdd; (try dsimp only); infer_instance
def vii (x : ((List Int) × Int × Int)) (k : ((List Int) × Int × Int) ⊕ ((List Int) × Int × Int) → Option Res) : Option Res :=
 bif (decide (x.2.2 < (x.1.length : Int))) then
 bif (decide (x.2.2 < 4000)) then
 vdd (x.1, x.2.1, x.2.2) (fun z2 =>
 k (.inl (z2.1, z2.2.1, z2.2.2)))
 else
 k (.inr (x.1, x.2.1, x.2.2))
 else
 k (.inr (x.1, x.2.1, x.2.2))
instance n32n_bp0 (x : ((List Int) × Int × Int)) : ParC (vii x) := by unfold vii; (try dsimp only); infer_instance
def vu7 (a0 : (List Int)) (k : ((List Int) × Int × Int) → Option Res) : Option Res :=
 vah vii Fuel (a0, (IntKind.wrap .i64 ((77601 : Int) + (a0.length : Int))), 0) (fun z1 =>
 k (z1.1, 0, z1.2.1))
def vl4 := shut vu7
theorem v0z : vl4 = vu7 := vaj _
instance n32n_p (a0 : (List Int)) : ParC (vl4 a0) := by rw [v0z]; unfold vu7; (try dsimp only); infer_instance
def vvq (a0 : (List Int)) (a1 : Int) (a2 : Int) (k : (Int × (List Int) × Int × Int) → Option Res) : Option Res :=
 bif (decide (a1 < (a0.length : Int))) then
 if 0 ≤ a1 ∧ a1 < (a0.length : Int) then
 k ((IntKind.wrap .i64 (BitVec.ofInt (IntKind.bits .i64) (IntKind.wrap .i64 ((IntKind.wrap .i64 (BitVec.ofInt (IntKind.bits .i64) (IntKind.wrap .i64 (BitVec.ofInt (IntKind.bits .i64) ((IntKind.wrap .i64 ((IntKind.wrap .i64 (a2 * (6364136223846793005 : Int))) + 1442695040888963407)).fdiv (2 ^ (min (33 : Int).toNat (IntKind.bits .i64)))) ^^^ BitVec.ofInt (IntKind.bits .i64) ((IntKind.wrap .i64 ((IntKind.wrap .i64 (a2 * (6364136223846793005 : Int))) + 1442695040888963407)).fdiv (2 ^ (min (45 : Int).toNat (IntKind.bits .i64))))).toNat) &&& BitVec.ofInt (IntKind.bits .i64) (255 : Int)).toNat) + (IntKind.wrap .i64 (rd (Ty.zero (.int .u8)) a0 a1)))) &&& BitVec.ofInt (IntKind.bits .i64) (255 : Int)).toNat), a0, (IntKind.wrap .i64 (a1 + 1)), (IntKind.wrap .i64 ((IntKind.wrap .i64 (a2 * (6364136223846793005 : Int))) + 1442695040888963407)))
 else none
 else
 k ((IntKind.wrap .i64 (BitVec.ofInt (IntKind.bits .i64) (IntKind.wrap .i64 (BitVec.ofInt (IntKind.bits .i64) ((IntKind.wrap .i64 ((IntKind.wrap .i64 (a2 * (6364136223846793005 : Int))) + 1442695040888963407)).fdiv (2 ^ (min (33 : Int).toNat (IntKind.bits .i64)))) ^^^ BitVec.ofInt (IntKind.bits .i64) ((IntKind.wrap .i64 ((IntKind.wrap .i64 (a2 * (6364136223846793005 : Int))) + 1442695040888963407)).fdiv (2 ^ (min (45 : Int).toNat (IntKind.bits .i64))))).toNat) &&& BitVec.ofInt (IntKind.bits .i64) (255 : Int)).toNat), a0, a1, (IntKind.wrap .i64 ((IntKind.wrap .i64 (a2 * (6364136223846793005 : Int))) + 1442695040888963407)))
def vjb := shut vvq
theorem vzh : vjb = vvq := vaj _
instance n30n_p (a0 : (List Int)) (a1 : Int) (a2 : Int) : ParC (vjb a0 a1 a2) := by rw [vzh]; unfold vvq; (try dsimp only); infer_instance
def vvy (a0 : Int) (a1 : (List Int)) (a2 : Int) (a3 : Int) (k : (Int × (List Int) × Int × Int) → Option Res) : Option Res :=
 bif (decide (a0 ≤ 0)) then
 k (0, a1, a2, a3)
 else
 bif (decide (a0 ≤ 256)) then
 vjb a1 a2 a3 (fun y1 =>
 if a0 = 0 then none else
 k ((y1.1.tmod a0), y1.2.1, y1.2.2.1, y1.2.2.2))
 else
 vjb a1 a2 a3 (fun y2 =>
 vjb y2.2.1 y2.2.2.1 y2.2.2.2 (fun y3 =>
 vjb y3.2.1 y3.2.2.1 y3.2.2.2 (fun y4 =>
 vjb y4.2.1 y4.2.2.1 y4.2.2.2 (fun y5 =>
 if a0 = 0 then none else
 k (((IntKind.wrap .i64 ((IntKind.wrap .i64 ((IntKind.wrap .i64 ((IntKind.wrap .i64 (y2.1 * (16777216 : Int))) + (IntKind.wrap .i64 (y3.1 * (65536 : Int))))) + (IntKind.wrap .i64 (y4.1 * (256 : Int))))) + y5.1)).tmod a0), y5.2.1, y5.2.2.1, y5.2.2.2)))))
def vhi := shut vvy
theorem v00 : vhi = vvy := vaj _
instance n29n_p (a0 : Int) (a1 : (List Int)) (a2 : Int) (a3 : Int) : ParC (vhi a0 a1 a2 a3) := by rw [v00]; unfold vvy; (try dsimp only); exact ⟨(va2 (val _) (va2 ((n30n_p _ _ _).p.bind fun y1 => (vb0 vbc (val _))) ((n30n_p _ _ _).p.bind fun y2 => ((n30n_p _ _ _).p.bind fun y3 => ((n30n_p _ _ _).p.bind fun y4 => ((n30n_p _ _ _).p.bind fun y5 => (vb0 vbc (val _))))))))⟩
def vu9 (a0 : (List ByteArray)) (a1 : (List Int)) (a2 : Int) (a3 : Int) (k : q15T → Option Res) : Option Res :=
 vhi (a0.length : Int) a1 a2 a3 (fun y1 =>
 if 0 ≤ y1.1 ∧ y1.1 < (a0.length : Int) then
 k ((rd (Ty.zero .str) a0 y1.1), y1.2.1, y1.2.2.1, y1.2.2.2)
 else none)
def vo0 := shut vu9
theorem vym : vo0 = vu9 := vaj _
instance n34n_p (a0 : (List ByteArray)) (a1 : (List Int)) (a2 : Int) (a3 : Int) : ParC (vo0 a0 a1 a2 a3) := by rw [vym]; unfold vu9; (try dsimp only); infer_instance
def vsu (a0 : (List Int)) (a1 : Int) (a2 : Int) (k : q15T → Option Res) : Option Res :=
 vo0 [(⟨#[97]⟩ : ByteArray), (⟨#[98]⟩ : ByteArray), (⟨#[99]⟩ : ByteArray), (⟨#[100]⟩ : ByteArray), (⟨#[97, 98]⟩ : ByteArray)] a0 a1 a2 (fun y1 =>
 k (y1.1, y1.2.1, y1.2.2.1, y1.2.2.2))
def vls := shut vsu
theorem vvz : vls = vsu := vaj _
instance n35n_p (a0 : (List Int)) (a1 : Int) (a2 : Int) : ParC (vls a0 a1 a2) := by rw [vvz]; unfold vsu; (try dsimp only); infer_instance
def vvs (a0 : Int) (a1 : (List Int)) (a2 : Int) (a3 : Int) (k : (Bool × (List Int) × Int × Int) → Option Res) : Option Res :=
 vhi a0 a1 a2 a3 (fun y1 =>
 k ((y1.1 == (0 : Int)), y1.2.1, y1.2.2.1, y1.2.2.2))
def vrc := shut vvs
theorem vz6 : vrc = vvs := vaj _
instance n33n_p (a0 : Int) (a1 : (List Int)) (a2 : Int) (a3 : Int) : ParC (vrc a0 a1 a2 a3) := by rw [vz6]; unfold vvs; (try dsimp only); infer_instance
def vv8 (a0 : (List Int)) (a1 : Int) (a2 : Int) (k : q16T → Option Res) : Option Res :=
 vls a0 a1 a2 (fun y1 =>
 vo0 [(⟨#[111, 110, 101]⟩ : ByteArray), (⟨#[116, 119, 111]⟩ : ByteArray), (⟨#[]⟩ : ByteArray), (⟨#[120, 0]⟩ : ByteArray)] y1.2.1 y1.2.2.1 y1.2.2.2 (fun y2 =>
 vrc (5 : Int) y2.2.1 y2.2.2.1 y2.2.2.2 (fun y3 =>
 bif y3.1 then
 k (y1.1, (⟨#[]⟩ : ByteArray), true, y3.2.1, y3.2.2.1, y3.2.2.2)
 else
 k (y1.1, y2.1, false, y3.2.1, y3.2.2.1, y3.2.2.2))))
def vq1 := shut vv8
theorem v1g : vq1 = vv8 := vaj _
instance n36n_p (a0 : (List Int)) (a1 : Int) (a2 : Int) : ParC (vq1 a0 a1 a2) := by rw [v1g]; unfold vv8; (try dsimp only); infer_instance
def vg5 (x : q11T) (k : q11T ⊕ q11T → Option Res) : Option Res :=
 bif (decide (x.2.1 < (x.1.length : Int))) then
 if 0 ≤ x.2.1 ∧ x.2.1 < (x.1.length : Int) then
 bif (vab ((rd (Ty.zero tWrite) x.1 x.2.1).1) x.2.2.1) then
 if 0 ≤ x.2.1 ∧ x.2.1 < (x.1.length : Int) then
 if x.2.2.2.2.2.length + [(rd (Ty.zero tWrite) x.1 x.2.1)].length ≤ VE.maxLen then
 k (.inl (x.1, (IntKind.wrap .i64 (x.2.1 + (1 : Int))), x.2.2.1, x.2.2.2.1, x.2.2.2.2.1, (x.2.2.2.2.2 ++ [(rd (Ty.zero tWrite) x.1 x.2.1)])))
 else none
 else none
 else
 k (.inl (x.1, (IntKind.wrap .i64 (x.2.1 + 1)), x.2.2.1, x.2.2.2.1, x.2.2.2.2.1, x.2.2.2.2.2))
 else none
 else
 k (.inr (x.1, x.2.1, x.2.2.1, x.2.2.2.1, x.2.2.2.2.1, x.2.2.2.2.2))
instance n27n_bp0 (x : q11T) : ParC (vg5 x) := by unfold vg5; (try dsimp only); infer_instance
def vhp (x : q11T) (k : q11T ⊕ q11T → Option Res) : Option Res :=
 bif (decide (x.2.1 < (x.1.length : Int))) then
 if 0 ≤ x.2.1 ∧ x.2.1 < (x.1.length : Int) then
 bif (!((vab ((rd (Ty.zero tWrite) x.1 x.2.1).1) x.2.2.1) || (vap ((rd (Ty.zero tWrite) x.1 x.2.1).1) x.2.2.1))) then
 if 0 ≤ x.2.1 ∧ x.2.1 < (x.1.length : Int) then
 if x.2.2.2.2.2.length + [(rd (Ty.zero tWrite) x.1 x.2.1)].length ≤ VE.maxLen then
 k (.inl (x.1, (IntKind.wrap .i64 (x.2.1 + (1 : Int))), x.2.2.1, x.2.2.2.1, x.2.2.2.2.1, (x.2.2.2.2.2 ++ [(rd (Ty.zero tWrite) x.1 x.2.1)])))
 else none
 else none
 else
 k (.inl (x.1, (IntKind.wrap .i64 (x.2.1 + 1)), x.2.2.1, x.2.2.2.1, x.2.2.2.2.1, x.2.2.2.2.2))
 else none
 else
 k (.inr (x.1, x.2.1, x.2.2.1, x.2.2.2.1, x.2.2.2.2.1, x.2.2.2.2.2))
instance n27n_bp2 (x : q11T) : ParC (vhp x) := by unfold vhp; (try dsimp only); infer_instance
def vv2 (a0 : (List vak)) (a1 : vak) (k : (List vak) → Option Res) : Option Res :=
 vah vg5 Fuel (a0, 0, a1.1, a1.2.1, a1.2.2, ([] : List vak)) (fun z1 =>
 if z1.2.2.2.2.2.length + [(z1.2.2.1, (z1.2.2.2.1, z1.2.2.2.2.1))].length ≤ VE.maxLen then
 vah vhp Fuel (z1.1, (0 : Int), z1.2.2.1, z1.2.2.2.1, z1.2.2.2.2.1, (z1.2.2.2.2.2 ++ [(z1.2.2.1, (z1.2.2.2.1, z1.2.2.2.2.1))])) (fun z2 =>
 k z2.2.2.2.2.2)
 else none)
def vmz := shut vv2
theorem v0k : vmz = vv2 := vaj _
instance n27n_p (a0 : (List vak)) (a1 : vak) : ParC (vmz a0 a1) := by rw [v0k]; unfold vv2; (try dsimp only); infer_instance
def vi3 (x : q20T) (k : q20T ⊕ q20T → Option Res) : Option Res :=
 vhi (4 : Int) x.2.1 x.2.2.1 x.2.2.2.1 (fun y2 =>
 bif (decide (x.1 < y2.1)) then
 vq1 y2.2.1 y2.2.2.1 y2.2.2.2 (fun y3 =>
 vmz x.2.2.2.2 (y3.1, (y3.2.1, y3.2.2.1)) (fun y4 =>
 k (.inl ((IntKind.wrap .i64 (x.1 + 1)), y3.2.2.2.1, y3.2.2.2.2.1, y3.2.2.2.2.2, y4))))
 else
 k (.inr (x.1, y2.2.1, y2.2.2.1, y2.2.2.2, x.2.2.2.2)))
instance n37n_bp0 (x : q20T) : ParC (vi3 x) := by unfold vi3; (try dsimp only); infer_instance
def vu4 (a0 : (List Int)) (a1 : Int) (a2 : Int) (k : q2T → Option Res) : Option Res :=
 vah vi3 Fuel (0, a0, a1, a2, ([] : List vak)) (fun z1 =>
 k (z1.2.1, z1.2.2.1, z1.2.2.2.1, z1.2.2.2.2))
def voo := shut vu4
theorem vyi : voo = vu4 := vaj _
instance n37n_p (a0 : (List Int)) (a1 : Int) (a2 : Int) : ParC (voo a0 a1 a2) := by rw [vyi]; unfold vu4; (try dsimp only); infer_instance
def vcj (x : q13T) (k : q13T → Option Res) : Option Res :=
 let xh := x.2.2.2.2.2.2.2.2
 if 0 ≤ x.2.2.2.1 ∧ x.2.2.2.1 < (x.2.2.2.2.1.length : Int) then
 if xh.2.length + [(x.2.2.2.2.1.getD x.2.2.2.1.toNat (Ty.zero tVersion))].length ≤ VE.maxLen then
 k (x.1, x.2.1, x.2.2.1, (IntKind.wrap .i64 (x.2.2.2.1 + (1 : Int))), x.2.2.2.2.1, x.2.2.2.2.2.1, x.2.2.2.2.2.2.1, x.2.2.2.2.2.2.2.1, xh.1, (xh.2 ++ [(x.2.2.2.2.1.getD x.2.2.2.1.toNat (Ty.zero tVersion))]))
 else none
 else none
instance n26n_jp6000003 (x : q13T) : ParC (vcj x) := by unfold vcj; (try dsimp only); infer_instance
def vig (x : q13T) (k : q13T ⊕ q13T → Option Res) : Option Res :=
 let xh := x.2.2.2.2.2.2.2.2
 let t0 := (x.1, x.2.1, x.2.2.1, x.2.2.2.1, x.2.2.2.2.1, x.2.2.2.2.2.1, x.2.2.2.2.2.2.1, x.2.2.2.2.2.2.2.1, xh.1, xh.2)
 let t1 := (x.2.2.2.2.1.getD x.2.2.2.1.toNat (Ty.zero tVersion))
 bif (decide (x.2.2.2.1 < (x.2.2.2.2.1.length : Int))) then
 if 0 ≤ x.2.2.2.1 ∧ x.2.2.2.1 < (x.2.2.2.2.1.length : Int) then
 bif (vab (t1.1) x.2.2.2.2.2.1) then
 vcj t0 (fun z3 =>
 let z3h := z3.2.2.2.2.2.2.2.2
 k (.inl (z3.1, z3.2.1, z3.2.2.1, z3.2.2.2.1, z3.2.2.2.2.1, z3.2.2.2.2.2.1, z3.2.2.2.2.2.2.1, z3.2.2.2.2.2.2.2.1, z3h.1, z3h.2)))
 else
 if 0 ≤ x.2.2.2.1 ∧ x.2.2.2.1 < (x.2.2.2.2.1.length : Int) then
 bif (vap (t1.1) x.2.2.2.2.2.1) then
 if 0 ≤ x.2.2.2.1 ∧ x.2.2.2.1 < (x.2.2.2.2.1.length : Int) then
 bif (decide (t1.2.2.2 ≤ xh.1)) then
 vcj t0 (fun z4 =>
 let z4h := z4.2.2.2.2.2.2.2.2
 k (.inl (z4.1, z4.2.1, z4.2.2.1, z4.2.2.2.1, z4.2.2.2.2.1, z4.2.2.2.2.2.1, z4.2.2.2.2.2.2.1, z4.2.2.2.2.2.2.2.1, z4h.1, z4h.2)))
 else
 k (.inr t0)
 else none
 else
 k (.inr t0)
 else none
 else none
 else
 k (.inr t0)
instance n26n_bp2 (x : q13T) : ParC (vig x) := by unfold vig; (try dsimp only); infer_instance
def viv (x : q12T) (k : q12T ⊕ q12T → Option Res) : Option Res :=
 bif (decide (x.2.2.1 < (x.1.length : Int))) then
 if 0 ≤ x.2.2.1 ∧ x.2.2.1 < (x.1.length : Int) then
 if 0 ≤ x.2.2.1 ∧ x.2.2.1 < (x.1.length : Int) then
 if 0 ≤ x.2.2.1 ∧ x.2.2.1 < (x.1.length : Int) then
 vah vig Fuel (x.1, x.2.1, x.2.2.1, 0, x.2.2.2, (rd (Ty.zero tWrite) x.1 x.2.2.1).1, (rd (Ty.zero tWrite) x.1 x.2.2.1).2.1, (rd (Ty.zero tWrite) x.1 x.2.2.1).2.2, x.2.1, ([] : List vaa)) (fun z2 =>
 let z2h := z2.2.2.2.2.2.2.2.2
 if z2h.2.length + [(z2.2.2.2.2.2.1, (z2.2.2.2.2.2.2.1, (z2.2.2.2.2.2.2.2.1, z2h.1)))].length ≤ VE.maxLen then
 if 0 ≤ z2.2.2.2.1 ∧ z2.2.2.2.1 ≤ (z2.2.2.2.2.1.length : Int) then
 if (z2h.2 ++ [(z2.2.2.2.2.2.1, (z2.2.2.2.2.2.2.1, (z2.2.2.2.2.2.2.2.1, z2h.1)))]).length + (z2.2.2.2.2.1.drop z2.2.2.2.1.toNat).length ≤ VE.maxLen then
 k (.inl (z2.1, z2.2.1, (IntKind.wrap .i64 (z2.2.2.1 + (1 : Int))), ((z2h.2 ++ [(z2.2.2.2.2.2.1, (z2.2.2.2.2.2.2.1, (z2.2.2.2.2.2.2.2.1, z2h.1)))]) ++ (z2.2.2.2.2.1.drop z2.2.2.2.1.toNat))))
 else none
 else none
 else none)
 else none
 else none
 else none
 else
 k (.inr (x.1, x.2.1, x.2.2.1, x.2.2.2))
instance n26n_bp0 (x : q12T) : ParC (viv x) := by unfold viv; (try dsimp only); infer_instance
def vwv (a0 : (List vaa)) (a1 : (List vak)) (a2 : Int) (k : (List vaa) → Option Res) : Option Res :=
 if ([] : List vaa).length + a0.length ≤ VE.maxLen then
 vah viv Fuel (a1, a2, 0, (([] : List vaa) ++ a0)) (fun z1 =>
 k z1.2.2.2)
 else none
def voa := shut vwv
theorem vyo : voa = vwv := vaj _
instance n26n_p (a0 : (List vaa)) (a1 : (List vak)) (a2 : Int) : ParC (voa a0 a1 a2) := by rw [vyo]; unfold vwv; (try dsimp only); infer_instance
def vio (x : q19T) (k : q19T ⊕ q19T → Option Res) : Option Res :=
 vhi (8 : Int) x.2.1 x.2.2.1 x.2.2.2.1 (fun y2 =>
 bif (decide (x.1 < y2.1)) then
 voo y2.2.1 y2.2.2.1 y2.2.2.2 (fun y3 =>
 voa x.2.2.2.2 y3.2.2.2 (IntKind.wrap .i64 (x.1 + 1)) (fun y4 =>
 k (.inl ((IntKind.wrap .i64 (x.1 + 1)), y3.1, y3.2.1, y3.2.2.1, y4))))
 else
 k (.inr (x.1, y2.2.1, y2.2.2.1, y2.2.2.2, x.2.2.2.2)))
instance n40n_bp0 (x : q19T) : ParC (vio x) := by unfold vio; (try dsimp only); infer_instance
def vwu (a0 : (List Int)) (a1 : Int) (a2 : Int) (k : q1T → Option Res) : Option Res :=
 vah vio Fuel (0, a0, a1, a2, ([] : List vaa)) (fun z1 =>
 k (z1.2.1, z1.2.2.1, z1.2.2.2.1, z1.2.2.2.2))
def vn0 := shut vwu
theorem v0i : vn0 = vwu := vaj _
instance n40n_p (a0 : (List Int)) (a1 : Int) (a2 : Int) : ParC (vn0 a0 a1 a2) := by rw [v0i]; unfold vwu; (try dsimp only); infer_instance
def vva (a0 : (List Int)) (k : (List vaa) → Option Res) : Option Res :=
 vl4 a0 (fun y1 =>
 vn0 y1.1 y1.2.1 y1.2.2 (fun y2 =>
 k y2.2.2.2))
def vos := shut vva
theorem v1o : vos = vva := vaj _
instance n24n_p (a0 : (List Int)) : ParC (vos a0) := by rw [v1o]; unfold vva; (try dsimp only); infer_instance
def vvg (a0 : (List Int)) (k : (List vak) → Option Res) : Option Res :=
 vl4 a0 (fun y1 =>
 voo y1.1 y1.2.1 y1.2.2 (fun y2 =>
 k y2.2.2.2))
def vnh := shut vvg
theorem v03 : vnh = vvg := vaj _
instance n25n_p (a0 : (List Int)) : ParC (vnh a0) := by rw [v03]; unfold vvg; (try dsimp only); infer_instance
def vvw (a0 : ByteArray) (k : Bool → Option Res) : Option Res :=
 k (!(vap a0 a0))
def vsb := shut vvw
theorem v0b : vsb = vvw := vaj _
instance n03n_p (a0 : ByteArray) : ParC (vsb a0) := by rw [v0b]; unfold vvw; (try dsimp only); infer_instance
def vvk (a0 : ByteArray) (a1 : ByteArray) (k : Int → Option Res) : Option Res :=
 vsb a0 (fun y1 =>
 vsb a1 (fun y2 =>
 bif y1 then
 bif y2 then
 k (0 : Int)
 else
 k (-1 : Int)
 else
 bif y2 then
 k (1 : Int)
 else
 bif (vab a0 a1) then
 k (-1 : Int)
 else
 bif (!((vab a0 a1) || (vap a0 a1))) then
 k (1 : Int)
 else
 k (0 : Int)))
def vq7 := shut vvk
theorem v0x : vq7 = vvk := vaj _
instance n01n_p (a0 : ByteArray) (a1 : ByteArray) : ParC (vq7 a0 a1) := by rw [v0x]; unfold vvk; (try dsimp only); infer_instance
def vwd (a0 : Int) (k : Bool → Option Res) : Option Res :=
 k (a0 != a0)
def vrw := shut vwd
theorem vz8 : vrw = vwd := vaj _
instance n02n_p (a0 : Int) : ParC (vrw a0) := by rw [vz8]; unfold vwd; (try dsimp only); infer_instance
def vvm (a0 : Int) (a1 : Int) (k : Int → Option Res) : Option Res :=
 vrw a0 (fun y1 =>
 vrw a1 (fun y2 =>
 bif y1 then
 bif y2 then
 k (0 : Int)
 else
 k (-1 : Int)
 else
 bif y2 then
 k (1 : Int)
 else
 bif (decide (a0 < a1)) then
 k (-1 : Int)
 else
 bif (decide (a0 > a1)) then
 k (1 : Int)
 else
 k (0 : Int)))
def vrb := shut vvm
theorem vzp : vrb = vvm := vaj _
instance n00n_p (a0 : Int) (a1 : Int) : ParC (vrb a0 a1) := by rw [vzp]; unfold vvm; (try dsimp only); infer_instance
def vvl (a0 : vaa) (a1 : vaa) (k : Int → Option Res) : Option Res :=
 vq7 a0.1 a1.1 (fun y1 =>
 bif (y1 != (0 : Int)) then
 k y1
 else
 vrb a0.2.2.2 a1.2.2.2 (fun y2 =>
 k y2))
def vjr := shut vvl
theorem vyv : vjr = vvl := vaj _
instance n11n_p (a0 : vaa) (a1 : vaa) : ParC (vjr a0 a1) := by rw [vyv]; unfold vvl; (try dsimp only); infer_instance
def vv9 (a0 : vaa) (a1 : ByteArray) (a2 : ByteArray) (a3 : Bool) (a4 : Int) (k : q14T → Option Res) : Option Res :=
 vjr a0 (a1, (a2, (a3, a4))) (fun y1 =>
 k ((decide (y1 > 0)), a1, a2, a3, a4))
def vsy := shut vv9
theorem v1n : vsy = vv9 := vaj _
instance n07n_p (a0 : vaa) (a1 : ByteArray) (a2 : ByteArray) (a3 : Bool) (a4 : Int) : ParC (vsy a0 a1 a2 a3 a4) := by rw [v1n]; unfold vv9; (try dsimp only); infer_instance
def vg7 (x : q10T) (k : q10T ⊕ (q10T ⊕ q10T) → Option Res) : Option Res :=
 bif (decide (x.2.2.2.1 < x.2.2.1)) then
 if 0 ≤ x.2.2.2.1 ∧ x.2.2.2.1 < (x.1.length : Int) then
 vsy (rd (Ty.zero tVersion) x.1 x.2.2.2.1) x.2.2.2.2.1 x.2.2.2.2.2.1 x.2.2.2.2.2.2.1 x.2.2.2.2.2.2.2 (fun y3 =>
 bif y3.1 then
 k (.inr (.inl (x.1, x.2.2.2.1, x.2.2.1, x.2.2.2.1, y3.2.1, y3.2.2.1, y3.2.2.2.1, y3.2.2.2.2)))
 else
 k (.inl (x.1, x.2.1, x.2.2.1, (IntKind.wrap .i64 (x.2.2.2.1 + 1)), y3.2.1, y3.2.2.1, y3.2.2.2.1, y3.2.2.2.2)))
 else none
 else
 k (.inr (.inr (x.1, x.2.1, x.2.2.1, x.2.2.2.1, x.2.2.2.2.1, x.2.2.2.2.2.1, x.2.2.2.2.2.2.1, x.2.2.2.2.2.2.2)))
instance n20n_bp0 (x : q10T) : ParC (vg7 x) := by unfold vg7; (try dsimp only); infer_instance
def vv3 (a0 : (List vaa)) (a1 : ByteArray) (a2 : ByteArray) (a3 : Bool) (a4 : Int) (k : q22T → Option Res) : Option Res :=
 vah vg7 Fuel (a0, 0, (a0.length : Int), 0, a1, a2, a3, a4) (Sum.elim (fun z1 =>
 k (z1.2.1, z1.2.2.2.2.1, z1.2.2.2.2.2.1, z1.2.2.2.2.2.2.1, z1.2.2.2.2.2.2.2)) (fun z2 =>
 k ((-1 : Int), z2.2.2.2.2.1, z2.2.2.2.2.2.1, z2.2.2.2.2.2.2.1, z2.2.2.2.2.2.2.2)))
def voz := shut vv3
theorem v0r : voz = vv3 := vaj _
instance n20n_p (a0 : (List vaa)) (a1 : ByteArray) (a2 : ByteArray) (a3 : Bool) (a4 : Int) : ParC (voz a0 a1 a2 a3 a4) := by rw [v0r]; unfold vv3; (try dsimp only); infer_instance
def vsq (a0 : Int) (a1 : (List vaa)) (a2 : (List vaa)) (k : q4T → Option Res) : Option Res :=
 if 0 ≤ a0 ∧ a0 ≤ (a1.length : Int) ∧ 0 < a2.length ∧ a1.length + a2.length ≤ 1073741824 then
 k (a2, (insL a1 a0 a2))
 else none
def vkv := shut vsq
theorem vz5 : vkv = vsq := vaj _
instance n21n_p (a0 : Int) (a1 : (List vaa)) (a2 : (List vaa)) : ParC (vkv a0 a1 a2) := by rw [vz5]; unfold vsq; (try dsimp only); infer_instance
def vgz (x : q21T) (k : q21T ⊕ q21T → Option Res) : Option Res :=
 bif (decide (x.2.2.2.1 < x.2.2.1)) then
 if 0 ≤ x.2.2.2.1 ∧ x.2.2.2.1 < (x.2.1.length : Int) then
 voz x.2.2.2.2 ((rd (Ty.zero tWrite) x.2.1 x.2.2.2.1).1) ((rd (Ty.zero tWrite) x.2.1 x.2.2.2.1).2.1) ((rd (Ty.zero tWrite) x.2.1 x.2.2.2.1).2.2) x.1 (fun y2 =>
 bif (decide (y2.1 < 0)) then
 vkv (x.2.2.2.2.length : Int) x.2.2.2.2 [y2.2] (fun y3 =>
 k (.inl (x.1, x.2.1, x.2.2.1, (IntKind.wrap .i64 (x.2.2.2.1 + 1)), y3.2)))
 else
 vkv y2.1 x.2.2.2.2 [y2.2] (fun y4 =>
 k (.inl (x.1, x.2.1, x.2.2.1, (IntKind.wrap .i64 (x.2.2.2.1 + 1)), y4.2))))
 else none
 else
 k (.inr (x.1, x.2.1, x.2.2.1, x.2.2.2.1, x.2.2.2.2))
instance n06n_bp0 (x : q21T) : ParC (vgz x) := by unfold vgz; (try dsimp only); infer_instance
def vu5 (a0 : (List vaa)) (a1 : (List vak)) (a2 : Int) (k : (List vaa) → Option Res) : Option Res :=
 if a0.length ≤ VE.maxLen then
 vah vgz Fuel (a2, a1, (a1.length : Int), 0, a0) (fun z1 =>
 k z1.2.2.2.2)
 else none
def vme := shut vu5
theorem vyz : vme = vu5 := vaj _
instance n06n_p (a0 : (List vaa)) (a1 : (List vak)) (a2 : Int) : ParC (vme a0 a1 a2) := by rw [vyz]; unfold vu5; (try dsimp only); infer_instance
def vg9 (x : q6T) (k : q6T ⊕ q6T → Option Res) : Option Res :=
 let t0 := (x.1, x.2.1, x.2.2.1, x.2.2.2.1, x.2.2.2.2.1, x.2.2.2.2.2.1, (IntKind.wrap .i64 (x.2.2.2.2.2.2 + (1 : Int))))
 bif (decide (x.2.2.2.2.2.2 < x.2.2.2.2.2.1)) then
 if 0 ≤ x.2.2.2.2.2.2 ∧ x.2.2.2.2.2.2 < (x.2.2.2.2.1.length : Int) then
 bif (vap ((rd (Ty.zero tVersion) x.2.2.2.2.1 x.2.2.2.2.2.2).1) x.2.1) then
 bif (decide ((rd (Ty.zero tVersion) x.2.2.2.2.1 x.2.2.2.2.2.2).2.2.2 ≤ x.2.2.1)) then
 bif (decide (x.2.2.2.1 < 0)) then
 k (.inl (x.1, x.2.1, x.2.2.1, x.2.2.2.2.2.2, x.2.2.2.2.1, x.2.2.2.2.2.1, (IntKind.wrap .i64 (x.2.2.2.2.2.2 + 1))))
 else
 if 0 ≤ x.2.2.2.1 ∧ x.2.2.2.1 < (x.1.length : Int) then
 bif (decide ((rd (Ty.zero tVersion) x.2.2.2.2.1 x.2.2.2.2.2.2).2.2.2 > (rd (Ty.zero tVersion) x.1 x.2.2.2.1).2.2.2)) then
 k (.inl (x.1, x.2.1, x.2.2.1, x.2.2.2.2.2.2, x.2.2.2.2.1, x.2.2.2.2.2.1, (IntKind.wrap .i64 (x.2.2.2.2.2.2 + 1))))
 else
 k (.inl t0)
 else none
 else
 k (.inl t0)
 else
 k (.inl t0)
 else none
 else
 k (.inr (x.1, x.2.1, x.2.2.1, x.2.2.2.1, x.2.2.2.2.1, x.2.2.2.2.2.1, x.2.2.2.2.2.2))
instance n13n_bp0 (x : q6T) : ParC (vg9 x) := by unfold vg9; (try dsimp only); infer_instance
def vwg (a0 : (List vaa)) (a1 : ByteArray) (a2 : Int) (k : Int → Option Res) : Option Res :=
 vah vg9 Fuel (a0, a1, a2, (-1 : Int), a0, (a0.length : Int), 0) (fun z1 =>
 k z1.2.2.2.1)
def voh := shut vwg
theorem vy7 : voh = vwg := vaj _
instance n13n_p (a0 : (List vaa)) (a1 : ByteArray) (a2 : Int) : ParC (voh a0 a1 a2) := by rw [vy7]; unfold vwg; (try dsimp only); infer_instance
def vvf (a0 : (List vaa)) (a1 : ByteArray) (a2 : Int) (k : (ByteArray × Bool) → Option Res) : Option Res :=
 voh a0 a1 a2 (fun y1 =>
 bif (decide (y1 < 0)) then
 k ((⟨#[]⟩ : ByteArray), false)
 else
 if 0 ≤ y1 ∧ y1 < (a0.length : Int) then
 bif (rd (Ty.zero tVersion) a0 y1).2.2.1 then
 k ((⟨#[]⟩ : ByteArray), false)
 else
 if 0 ≤ y1 ∧ y1 < (a0.length : Int) then
 k ((rd (Ty.zero tVersion) a0 y1).2.1, true)
 else none
 else none)
def vfk := shut vvf
theorem v1h : vfk = vvf := vaj _
instance n09n_p (a0 : (List vaa)) (a1 : ByteArray) (a2 : Int) : ParC (vfk a0 a1 a2) := by rw [v1h]; unfold vvf; (try dsimp only); infer_instance
def vik (x : (Int × Int × Int × (List Int))) (k : (Int × Int × Int × (List Int)) ⊕ (Int × Int × Int × (List Int)) → Option Res) : Option Res :=
 bif (decide (x.2.2.1 < x.1)) then
 if 0 ≤ x.2.2.1 ∧ x.2.2.1 < (x.2.2.2.length : Int) then
 k (.inl (x.1, x.2.1, (IntKind.wrap .i64 (x.2.2.1 + 1)), (x.2.2.2.set x.2.2.1.toNat x.2.1)))
 else none
 else
 k (.inr (x.1, x.2.1, x.2.2.1, x.2.2.2))
instance n31n_bp0 (x : (Int × Int × Int × (List Int))) : ParC (vik x) := by unfold vik; (try dsimp only); infer_instance
def vwe (a0 : Int) (a1 : Int) (k : ByteArray → Option Res) : Option Res :=
 if 0 ≤ a0 ∧ a0 ≤ a0 ∧ a0 ≤ (VE.maxLen : Int) then
 vah vik Fuel (a0, a1, 0, (List.replicate a0.toNat (Ty.zero (.int .u8)))) (fun z1 =>
 k (vj5 z1.2.2.2))
 else none
def vrs := shut vwe
theorem vz0 : vrs = vwe := vaj _
instance n31n_p (a0 : Int) (a1 : Int) : ParC (vrs a0 a1) := by rw [vz0]; unfold vwe; (try dsimp only); infer_instance
def vu3 (a0 : (List Int)) (a1 : Int) (a2 : Int) (k : q1T → Option Res) : Option Res :=
 vhi (10 : Int) a0 a1 a2 (fun y1 =>
 vhi (60 : Int) y1.2.1 y1.2.2.1 y1.2.2.2 (fun y2 =>
 vn0 y2.2.1 y2.2.2.1 y2.2.2.2 (fun y3 =>
 if ([] : List vaa).length + y3.2.2.2.length ≤ VE.maxLen then
 bif (decide (((([] : List vaa) ++ y3.2.2.2).length : Int) > (0 : Int))) then
 if ((([] : List vaa) ++ y3.2.2.2).length : Int) = 0 then none else
 bif (y1.1 == (0 : Int)) then
 if 0 ≤ (y2.1.tmod (4 : Int)) ∧ (y2.1.tmod (4 : Int)) < ([(0 : Int), (9999 : Int), (10000 : Int), (3 : Int)].length : Int) then
 if 0 ≤ (y2.1.tmod ((([] : List vaa) ++ y3.2.2.2).length : Int)) ∧ (y2.1.tmod ((([] : List vaa) ++ y3.2.2.2).length : Int)) < ((([] : List vaa) ++ y3.2.2.2).length : Int) then
 k (y3.1, y3.2.1, y3.2.2.1, ((([] : List vaa) ++ y3.2.2.2).set (y2.1.tmod ((([] : List vaa) ++ y3.2.2.2).length : Int)).toNat (((([] : List vaa) ++ y3.2.2.2).getD (y2.1.tmod ((([] : List vaa) ++ y3.2.2.2).length : Int)).toNat (Ty.zero tVersion)).1, (((([] : List vaa) ++ y3.2.2.2).getD (y2.1.tmod ((([] : List vaa) ++ y3.2.2.2).length : Int)).toNat (Ty.zero tVersion)).2.1, (((([] : List vaa) ++ y3.2.2.2).getD (y2.1.tmod ((([] : List vaa) ++ y3.2.2.2).length : Int)).toNat (Ty.zero tVersion)).2.2.1, ([(0 : Int), (9999 : Int), (10000 : Int), (3 : Int)].getD (y2.1.tmod (4 : Int)).toNat (Ty.zero (.i))))))))
 else none
 else none
 else
 bif (y1.1 == (1 : Int)) then
 if 0 ≤ (y2.1.tmod (3 : Int)) ∧ (y2.1.tmod (3 : Int)) < ([(⟨#[]⟩ : ByteArray), (⟨#[65]⟩ : ByteArray), (⟨#[122]⟩ : ByteArray)].length : Int) then
 if 0 ≤ (y2.1.tmod ((([] : List vaa) ++ y3.2.2.2).length : Int)) ∧ (y2.1.tmod ((([] : List vaa) ++ y3.2.2.2).length : Int)) < ((([] : List vaa) ++ y3.2.2.2).length : Int) then
 k (y3.1, y3.2.1, y3.2.2.1, ((([] : List vaa) ++ y3.2.2.2).set (y2.1.tmod ((([] : List vaa) ++ y3.2.2.2).length : Int)).toNat (([(⟨#[]⟩ : ByteArray), (⟨#[65]⟩ : ByteArray), (⟨#[122]⟩ : ByteArray)].getD (y2.1.tmod (3 : Int)).toNat (Ty.zero .str)), ((([] : List vaa) ++ y3.2.2.2).getD (y2.1.tmod ((([] : List vaa) ++ y3.2.2.2).length : Int)).toNat (Ty.zero tVersion)).2)))
 else none
 else none
 else
 bif (y1.1 == (2 : Int)) then
 if 0 ≤ (y2.1.tmod ((([] : List vaa) ++ y3.2.2.2).length : Int)) ∧ (y2.1.tmod ((([] : List vaa) ++ y3.2.2.2).length : Int)) < ((([] : List vaa) ++ y3.2.2.2).length : Int) then
 k (y3.1, y3.2.1, y3.2.2.1, ((([] : List vaa) ++ y3.2.2.2).set (y2.1.tmod ((([] : List vaa) ++ y3.2.2.2).length : Int)).toNat (((([] : List vaa) ++ y3.2.2.2).getD (y2.1.tmod ((([] : List vaa) ++ y3.2.2.2).length : Int)).toNat (Ty.zero tVersion)).1, (((([] : List vaa) ++ y3.2.2.2).getD (y2.1.tmod ((([] : List vaa) ++ y3.2.2.2).length : Int)).toNat (Ty.zero tVersion)).2.1, (true, ((([] : List vaa) ++ y3.2.2.2).getD (y2.1.tmod ((([] : List vaa) ++ y3.2.2.2).length : Int)).toNat (Ty.zero tVersion)).2.2.2)))))
 else none
 else
 bif (y1.1 == (3 : Int)) then
 vrs (13 : Int) (97 : Int) (fun y4 =>
 if 0 ≤ (y2.1.tmod ((([] : List vaa) ++ y3.2.2.2).length : Int)) ∧ (y2.1.tmod ((([] : List vaa) ++ y3.2.2.2).length : Int)) < ((([] : List vaa) ++ y3.2.2.2).length : Int) then
 k (y3.1, y3.2.1, y3.2.2.1, ((([] : List vaa) ++ y3.2.2.2).set (y2.1.tmod ((([] : List vaa) ++ y3.2.2.2).length : Int)).toNat (((([] : List vaa) ++ y3.2.2.2).getD (y2.1.tmod ((([] : List vaa) ++ y3.2.2.2).length : Int)).toNat (Ty.zero tVersion)).1, (y4, ((([] : List vaa) ++ y3.2.2.2).getD (y2.1.tmod ((([] : List vaa) ++ y3.2.2.2).length : Int)).toNat (Ty.zero tVersion)).2.2))))
 else none)
 else
 k (y3.1, y3.2.1, y3.2.2.1, (([] : List vaa) ++ y3.2.2.2))
 else
 k (y3.1, y3.2.1, y3.2.2.1, (([] : List vaa) ++ y3.2.2.2))
 else none)))
def vr4 := shut vu3
theorem v0a : vr4 = vu3 := vaj _
instance n38n_p (a0 : (List Int)) (a1 : Int) (a2 : Int) : ParC (vr4 a0 a1 a2) := by rw [v0a]; unfold vu3; (try dsimp only); exact ⟨((n29n_p _ _ _ _).p.bind fun y1 => ((n29n_p _ _ _ _).p.bind fun y2 => ((n40n_p _ _ _).p.bind fun y3 => (vb0 (va2 (vb0 vbc (va2 (vb0 (vb0 (val _) vbc) vbc) (va2 (vb0 (vb0 (val _) vbc) vbc) (va2 (vb0 (val _) vbc) (va2 ((n31n_p _ _).p.bind fun y4 => (vb0 (val _) vbc)) (val _)))))) (val _)) vbc))))⟩
def vvu (a0 : (List Int)) (k : q17T → Option Res) : Option Res :=
 vl4 a0 (fun y1 =>
 vls y1.1 y1.2.1 y1.2.2 (fun y2 =>
 vhi (10 : Int) y2.2.1 y2.2.2.1 y2.2.2.2 (fun y3 =>
 vr4 y3.2.1 y3.2.2.1 y3.2.2.2 (fun y4 =>
 k (y2.1, y3.1, y4.2.2.2)))))
def voi := shut vvu
theorem v05 : voi = vvu := vaj _
instance n23n_p (a0 : (List Int)) : ParC (voi a0) := by rw [v05]; unfold vvu; (try dsimp only); infer_instance
def vhn (x : q7T) (k : q7T ⊕ q7T → Option Res) : Option Res :=
 let t0 := (IntKind.wrap .i64 (x.2.2.2.2 + (1 : Int)))
 bif (decide (x.2.2.2.2 < (x.1.length : Int))) then
 if 0 ≤ x.2.2.2.2 ∧ x.2.2.2.2 < (x.1.length : Int) then
 bif (vap ((rd (Ty.zero tVersion) x.1 x.2.2.2.2).1) x.2.1) then
 if 0 ≤ x.2.2.2.2 ∧ x.2.2.2.2 < (x.1.length : Int) then
 bif (decide ((rd (Ty.zero tVersion) x.1 x.2.2.2.2).2.2.2 ≤ x.2.2.1)) then
 bif (decide (x.2.2.2.1 < 0)) then
 k (.inl (x.1, x.2.1, x.2.2.1, x.2.2.2.2, t0))
 else
 if 0 ≤ x.2.2.2.2 ∧ x.2.2.2.2 < (x.1.length : Int) then
 if 0 ≤ x.2.2.2.1 ∧ x.2.2.2.1 < (x.1.length : Int) then
 bif (decide ((rd (Ty.zero tVersion) x.1 x.2.2.2.2).2.2.2 > (rd (Ty.zero tVersion) x.1 x.2.2.2.1).2.2.2)) then
 k (.inl (x.1, x.2.1, x.2.2.1, x.2.2.2.2, t0))
 else
 k (.inl (x.1, x.2.1, x.2.2.1, x.2.2.2.1, t0))
 else none
 else none
 else
 k (.inl (x.1, x.2.1, x.2.2.1, x.2.2.2.1, t0))
 else none
 else
 k (.inl (x.1, x.2.1, x.2.2.1, x.2.2.2.1, t0))
 else none
 else
 k (.inr (x.1, x.2.1, x.2.2.1, x.2.2.2.1, x.2.2.2.2))
instance n39n_bp0 (x : q7T) : ParC (vhn x) := by unfold vhn; (try dsimp only); infer_instance
def vvd (a0 : (List vaa)) (a1 : ByteArray) (a2 : Int) (k : Int → Option Res) : Option Res :=
 vah vhn Fuel (a0, a1, a2, (-1 : Int), 0) (fun z1 =>
 k z1.2.2.2.1)
def vo2 := shut vvd
theorem vy8 : vo2 = vvd := vaj _
instance n39n_p (a0 : (List vaa)) (a1 : ByteArray) (a2 : Int) : ParC (vo2 a0 a1 a2) := by rw [vy8]; unfold vvd; (try dsimp only); infer_instance
def vv7 (a0 : (List vaa)) (a1 : ByteArray) (a2 : Int) (k : (ByteArray × Bool) → Option Res) : Option Res :=
 vo2 a0 a1 a2 (fun y1 =>
 bif (decide (y1 < 0)) then
 k ((⟨#[]⟩ : ByteArray), false)
 else
 if 0 ≤ y1 ∧ y1 < (a0.length : Int) then
 bif (rd (Ty.zero tVersion) a0 y1).2.2.1 then
 k ((⟨#[]⟩ : ByteArray), false)
 else
 if 0 ≤ y1 ∧ y1 < (a0.length : Int) then
 k ((rd (Ty.zero tVersion) a0 y1).2.1, true)
 else none
 else none)
def vn5 := shut vv7
theorem v0l : vn5 = vv7 := vaj _
instance n28n_p (a0 : (List vaa)) (a1 : ByteArray) (a2 : Int) : ParC (vn5 a0 a1 a2) := by rw [v0l]; unfold vv7; (try dsimp only); infer_instance
def vwj (a0 : Int) (a1 : Int) (a2 : Int) (k : Bool → Option Res) : Option Res :=
 bif (decide (a0 ≥ a1)) then
 k (decide (a0 ≤ a2))
 else
 k false
def via := shut vwj
theorem v0v : via = vwj := vaj _
instance n14n_p (a0 : Int) (a1 : Int) (a2 : Int) : ParC (via a0 a1 a2) := by rw [v0v]; unfold vwj; (try dsimp only); infer_instance
def vgy (x : (ByteArray × Bool × Int)) (k : (ByteArray × Bool × Int) ⊕ ((ByteArray × Bool × Int) ⊕ (ByteArray × Bool × Int)) → Option Res) : Option Res :=
 bif (decide (x.2.2 < (x.1.size : Int))) then
 if 0 ≤ x.2.2 ∧ x.2.2 < (x.1.size : Int) then
 bif (decide ((bt x.1 x.2.2) < (97 : Int))) then
 k (.inr (.inl (x.1, false, x.2.2)))
 else
 if 0 ≤ x.2.2 ∧ x.2.2 < (x.1.size : Int) then
 bif (decide ((bt x.1 x.2.2) > (122 : Int))) then
 k (.inr (.inl (x.1, false, x.2.2)))
 else
 k (.inl (x.1, x.2.1, (IntKind.wrap .i64 (x.2.2 + 1))))
 else none
 else none
 else
 k (.inr (.inr (x.1, x.2.1, x.2.2)))
instance n05n_bp0 (x : (ByteArray × Bool × Int)) : ParC (vgy x) := by unfold vgy; (try dsimp only); infer_instance
def vws (a0 : ByteArray) (k : Bool → Option Res) : Option Res :=
 vah vgy Fuel (a0, false, 0) (Sum.elim (fun z1 =>
 k z1.2.1) (fun z2 =>
 via (z2.1.size : Int) (1 : Int) (3 : Int) (fun y3 =>
 k y3)))
def vl1 := shut vws
theorem vzx : vl1 = vws := vaj _
instance n05n_p (a0 : ByteArray) : ParC (vl1 a0) := by rw [vzx]; unfold vws; (try dsimp only); infer_instance
def vg6 (x : q5T) (k : q5T ⊕ (q5T ⊕ q5T) → Option Res) : Option Res :=
 let t0 := (rd (Ty.zero tVersion) x.2.2.1 x.2.2.2.2)
 let t1 := (x.1, false, x.2.2.1, x.2.2.2.1, x.2.2.2.2)
 let t2 := (x.1, x.2.1, x.2.2.1, x.2.2.2.1, (IntKind.wrap .i64 (x.2.2.2.2 + (1 : Int))))
 let t3 := (IntKind.wrap .i64 (x.2.2.2.2 - (1 : Int)))
 bif (decide (x.2.2.2.2 < x.2.2.2.1)) then
 if 0 ≤ x.2.2.2.2 ∧ x.2.2.2.2 < (x.2.2.1.length : Int) then
 vl1 (t0.1) (fun y3 =>
 bif (!y3) then
 k (.inr (.inl t1))
 else
 bif (decide ((t0.2.1.size : Int) > (12 : Int))) then
 k (.inr (.inl t1))
 else
 bif t0.2.2.1 then
 bif (!(vap (t0.2.1) (⟨#[]⟩ : ByteArray))) then
 k (.inr (.inl t1))
 else
 via (t0.2.2.2) (1 : Int) (9999 : Int) (fun y4 =>
 bif (!y4) then
 k (.inr (.inl t1))
 else
 bif (decide (x.2.2.2.2 > 0)) then
 if 0 ≤ t3 ∧ t3 < (x.1.length : Int) then
 vjr (rd (Ty.zero tVersion) x.1 t3) t0 (fun y5 =>
 bif (decide (y5 ≥ 0)) then
 k (.inr (.inl t1))
 else
 k (.inl t2))
 else none
 else
 k (.inl t2))
 else
 via (t0.2.2.2) (1 : Int) (9999 : Int) (fun y6 =>
 bif (!y6) then
 k (.inr (.inl t1))
 else
 bif (decide (x.2.2.2.2 > 0)) then
 if 0 ≤ t3 ∧ t3 < (x.1.length : Int) then
 vjr (rd (Ty.zero tVersion) x.1 t3) t0 (fun y7 =>
 bif (decide (y7 ≥ 0)) then
 k (.inr (.inl t1))
 else
 k (.inl t2))
 else none
 else
 k (.inl t2)))
 else none
 else
 k (.inr (.inr (x.1, x.2.1, x.2.2.1, x.2.2.2.1, x.2.2.2.2)))
instance n10n_bp0 (x : q5T) : ParC (vg6 x) := by unfold vg6; (try dsimp only); exact ⟨(va2 (vb0 ((n05n_p _).p.bind fun y3 => (va2 (val _) (va2 (val _) (va2 (va2 (val _) ((n14n_p _ _ _).p.bind fun y4 => (va2 (val _) (va2 (vb0 ((n11n_p _ _).p.bind fun y5 => (va2 (val _) (val _))) vbc) (val _))))) ((n14n_p _ _ _).p.bind fun y6 => (va2 (val _) (va2 (vb0 ((n11n_p _ _).p.bind fun y7 => (va2 (val _) (val _))) vbc) (val _)))))))) vbc) (val _))⟩
def vu8 (a0 : (List vaa)) (k : Bool → Option Res) : Option Res :=
 vah vg6 Fuel (a0, false, a0, (a0.length : Int), 0) (Sum.elim (fun z1 =>
 k z1.2.1) (fun z2 =>
 k (decide ((z2.1.length : Int) ≤ (120 : Int)))))
def vlo := shut vu8
theorem vzj : vlo = vu8 := vaj _
instance n10n_p (a0 : (List vaa)) : ParC (vlo a0) := by rw [vzj]; unfold vu8; (try dsimp only); infer_instance
def vv5  (k : (ByteArray × ByteArray) → Option Res) : Option Res :=
 k ((⟨#[97]⟩ : ByteArray), (⟨#[122, 122, 122]⟩ : ByteArray))
def vmc := shut vv5
theorem vyx : vmc = vv5 := vaj _
instance n16n_p  : ParC (vmc ) := by rw [vyx]; unfold vv5; (try dsimp only); infer_instance
def vr6 (a0 : (List ByteArray)) (k : (List ByteArray) → Option Res) : Option Res :=
 if a0.length ≤ 1000000000 then
 k (vgf a0)
 else none
def vot := shut vr6
theorem vzq : vot = vr6 := vaj _
instance n22n_p (a0 : (List ByteArray)) : ParC (vot a0) := by rw [vzq]; unfold vr6; (try dsimp only); infer_instance
def vgm (x : (Int × Nat × Int × (List ByteArray))) (k : (Int × Nat × Int × (List ByteArray)) ⊕ (Int × Nat × Int × (List ByteArray)) → Option Res) : Option Res :=
 bif (decide (x.2.2.1 < ((x.2.2.2.length : Int) - ((x.2.1 : Nat) : Int)))) then
 if 0 ≤ x.2.2.1 ∧ x.2.2.1 < (x.2.2.2.length : Int) - ((x.2.1 : Nat) : Int) then
 if 0 ≤ (IntKind.wrap .i64 (x.2.2.1 - 1)) ∧ (IntKind.wrap .i64 (x.2.2.1 - 1)) < (x.2.2.2.length : Int) - ((x.2.1 : Nat) : Int) then
 bif (!(vap (x.2.2.2.getD (x.2.1 + x.2.2.1.toNat) (Ty.zero .str)) (x.2.2.2.getD (x.2.1 + (IntKind.wrap .i64 (x.2.2.1 - 1)).toNat) (Ty.zero .str)))) then
 if 0 ≤ x.2.2.1 ∧ x.2.2.1 < (x.2.2.2.length : Int) - ((x.2.1 : Nat) : Int) then
 if 0 ≤ x.1 ∧ x.1 < (x.2.2.2.length : Int) then
 k (.inl ((IntKind.wrap .i64 (x.1 + 1)), x.2.1, (IntKind.wrap .i64 (x.2.2.1 + 1)), (x.2.2.2.set x.1.toNat (x.2.2.2.getD (x.2.1 + x.2.2.1.toNat) (Ty.zero .str)))))
 else none
 else none
 else
 k (.inl (x.1, x.2.1, (IntKind.wrap .i64 (x.2.2.1 + 1)), x.2.2.2))
 else none
 else none
 else
 k (.inr (x.1, x.2.1, x.2.2.1, x.2.2.2))
instance n19n_bp2 (x : (Int × Nat × Int × (List ByteArray))) : ParC (vgm x) := by unfold vgm; (try dsimp only); infer_instance
def vff (x : q18T) (k : q18T ⊕ (q18T ⊕ (Int × (List ByteArray))) → Option Res) : Option Res :=
 bif (decide (x.1 < (x.2.1.length : Int))) then
 if 0 ≤ x.1 ∧ x.1 < (x.2.1.length : Int) then
 if 0 ≤ (IntKind.wrap .i64 (x.1 - 1)) ∧ (IntKind.wrap .i64 (x.1 - 1)) < (x.2.1.length : Int) then
 bif (vap (x.2.1.getD x.1.toNat (Ty.zero .str)) (x.2.1.getD (IntKind.wrap .i64 (x.1 - 1)).toNat (Ty.zero .str))) then
 if 0 ≤ x.1 ∧ x.1 ≤ (x.2.1.length : Int) then
 vah vgm Fuel (x.1, x.1.toNat, 1, x.2.1) (fun z3 =>
 if 0 ≤ z3.1 ∧ z3.1 ≤ (z3.2.2.2.length : Int) then
 if 0 ≤ z3.1 ∧ z3.1 ≤ ((z3.2.2.2.take z3.1.toNat ++ List.replicate (z3.2.2.2.length - z3.1.toNat) (Ty.zero .str)).length : Int) then
 k (.inr (.inr (z3.1, ((z3.2.2.2.take z3.1.toNat ++ List.replicate (z3.2.2.2.length - z3.1.toNat) (Ty.zero .str)).take z3.1.toNat))))
 else none
 else none)
 else none
 else
 k (.inl ((IntKind.wrap .i64 (x.1 + 1)), x.2.1, x.2.2))
 else none
 else none
 else
 k (.inr (.inl (x.1, x.2.1, x.2.2)))
instance n19n_bp0 (x : q18T) : ParC (vff x) := by unfold vff; (try dsimp only); infer_instance
def vvt (a0 : (List ByteArray)) (k : ((List ByteArray) ⊕ (List ByteArray)) → Option Res) : Option Res :=
 bif (decide ((a0.length : Int) < (2 : Int))) then
 k (.inl a0)
 else
 vah vff Fuel (1, a0, ([] : List ByteArray)) (Sum.elim (fun z1 =>
 k (.inl z1.2.1)) (fun z2 =>
 k (.inr z2.2)))
def vl5 := shut vvt
theorem vy5 : vl5 = vvt := vaj _
instance n19n_p (a0 : (List ByteArray)) : ParC (vl5 a0) := by rw [vy5]; unfold vvt; (try dsimp only); infer_instance
def vhk (x : q8T) (k : q8T ⊕ q8T → Option Res) : Option Res :=
 bif (decide (x.2.2.1 < x.2.1)) then
 if 0 ≤ x.2.2.1 ∧ x.2.2.1 < (x.1.length : Int) then
 if x.2.2.2.length + [(rd (Ty.zero tVersion) x.1 x.2.2.1).1].length ≤ VE.maxLen then
 k (.inl (x.1, x.2.1, (IntKind.wrap .i64 (x.2.2.1 + (1 : Int))), (x.2.2.2 ++ [(rd (Ty.zero tVersion) x.1 x.2.2.1).1])))
 else none
 else none
 else
 k (.inr (x.1, x.2.1, x.2.2.1, x.2.2.2))
instance n12n_bp0 (x : q8T) : ParC (vhk x) := by unfold vhk; (try dsimp only); infer_instance
def vv4 (a0 : (List vaa)) (k : (List ByteArray) → Option Res) : Option Res :=
 vah vhk Fuel (a0, (a0.length : Int), 0, ([] : List ByteArray)) (fun z1 =>
 vot z1.2.2.2 (fun y2 =>
 vl5 y2 (Sum.elim (fun y3 =>
 k y3) (fun y4 =>
 k y4))))
def vny := shut vv4
theorem v0q : vny = vv4 := vaj _
instance n12n_p (a0 : (List vaa)) : ParC (vny a0) := by rw [v0q]; unfold vv4; (try dsimp only); infer_instance
def vwh (a0 : vca) (a1 : ByteArray) (k : Bool → Option Res) : Option Res :=
 bif (!(vab a1 a0.1)) then
 k ((vab a1 a0.2) || (vap a1 a0.2))
 else
 k false
def vnj := shut vwh
theorem v02 : vnj = vwh := vaj _
instance n04n_p (a0 : vca) (a1 : ByteArray) : ParC (vnj a0 a1) := by rw [v02]; unfold vwh; (try dsimp only); infer_instance
def vgc (x : q9T) (k : q9T ⊕ q9T → Option Res) : Option Res :=
 let t0 := (x.2.2.2.2.2.2.2.getD x.2.2.2.1.toNat (Ty.zero .str))
 bif (decide (x.2.2.2.1 < x.2.2.1)) then
 if 0 ≤ x.2.2.2.1 ∧ x.2.2.2.1 < (x.2.2.2.2.2.2.2.length : Int) then
 vfk x.1 t0 x.2.1 (fun y3 =>
 bif y3.2 then
 vnj (x.2.2.2.2.1, x.2.2.2.2.2.1) t0 (fun y4 =>
 bif y4 then
 if x.2.2.2.2.2.2.1.length + [(t0, y3.1)].length ≤ VE.maxLen then
 k (.inl (x.1, x.2.1, x.2.2.1, (IntKind.wrap .i64 (x.2.2.2.1 + (1 : Int))), x.2.2.2.2.1, x.2.2.2.2.2.1, (x.2.2.2.2.2.2.1 ++ [(t0, y3.1)]), x.2.2.2.2.2.2.2))
 else none
 else
 k (.inl (x.1, x.2.1, x.2.2.1, (IntKind.wrap .i64 (x.2.2.2.1 + 1)), x.2.2.2.2.1, x.2.2.2.2.2.1, x.2.2.2.2.2.2.1, x.2.2.2.2.2.2.2)))
 else
 k (.inl (x.1, x.2.1, x.2.2.1, (IntKind.wrap .i64 (x.2.2.2.1 + 1)), x.2.2.2.2.1, x.2.2.2.2.2.1, x.2.2.2.2.2.2.1, x.2.2.2.2.2.2.2)))
 else none
 else
 k (.inr (x.1, x.2.1, x.2.2.1, x.2.2.2.1, x.2.2.2.2.1, x.2.2.2.2.2.1, x.2.2.2.2.2.2.1, x.2.2.2.2.2.2.2))
instance n08n_bp0 (x : q9T) : ParC (vgc x) := by unfold vgc; (try dsimp only); infer_instance
def vwi (a0 : (List vaa)) (a1 : vca) (a2 : Int) (k : (List vca) → Option Res) : Option Res :=
 vny a0 (fun y1 =>
 vah vgc Fuel (a0, a2, (y1.length : Int), 0, a1.1, a1.2, ([] : List vca), y1) (fun z2 =>
 k z2.2.2.2.2.2.2.1))
def vki := shut vwi
theorem v1i : vki = vwi := vaj _
instance n08n_p (a0 : (List vaa)) (a1 : vca) (a2 : Int) : ParC (vki a0 a1 a2) := by rw [v1i]; unfold vwi; (try dsimp only); infer_instance
def vho (x : q3T) (k : q3T ⊕ (q3T ⊕ q3T) → Option Res) : Option Res :=
 bif (decide (x.2.2.2 < (x.1.length : Int))) then
 if 0 ≤ x.2.2.2 ∧ x.2.2.2 < (x.1.length : Int) then
 if 0 ≤ x.2.2.2 ∧ x.2.2.2 < (x.2.1.length : Int) then
 bif (!(Ty.eqB tRange (rd (Ty.zero tRange) x.1 x.2.2.2) (rd (Ty.zero tRange) x.2.1 x.2.2.2))) then
 k (.inr (.inl (x.1, x.2.1, false, x.2.2.2)))
 else
 k (.inl (x.1, x.2.1, x.2.2.1, (IntKind.wrap .i64 (x.2.2.2 + 1))))
 else none
 else none
 else
 k (.inr (.inr (x.1, x.2.1, x.2.2.1, x.2.2.2)))
instance n18n_bp0 (x : q3T) : ParC (vho x) := by unfold vho; (try dsimp only); infer_instance
def vwa (a0 : (List vca)) (a1 : (List vca)) (k : Bool → Option Res) : Option Res :=
 bif ((a0.length : Int) != (a1.length : Int)) then
 k false
 else
 vah vho Fuel (a0, a1, false, 0) (Sum.elim (fun z1 =>
 k z1.2.2.1) (fun _ =>
 k true))
def vlw := shut vwa
theorem vyq : vlw = vwa := vaj _
instance n18n_p (a0 : (List vca)) (a1 : (List vca)) : ParC (vlw a0 a1) := by rw [vyq]; unfold vwa; (try dsimp only); infer_instance
def vge (x : q0T) (k : q0T ⊕ (q0T ⊕ q0T) → Option Res) : Option Res :=
 let t0 := (x.2.2.2.2.1.getD x.2.2.1.toNat (Ty.zero tWrite))
 let t1 := (x.1, false, x.2.2.1, x.2.2.2.1, x.2.2.2.2.1, x.2.2.2.2.2)
 bif (decide (x.2.2.1 < (x.2.2.2.2.1.length : Int))) then
 if 0 ≤ x.2.2.1 ∧ x.2.2.1 < (x.2.2.2.2.1.length : Int) then
 vfk x.2.2.2.2.2 (t0.1) (50 : Int) (fun y16 =>
 if 0 ≤ x.2.2.1 ∧ x.2.2.1 < (x.2.2.2.2.1.length : Int) then
 vfk x.2.2.2.2.2 (t0.1) (49 : Int) (fun y17 =>
 if 0 ≤ x.2.2.1 ∧ x.2.2.1 < (x.2.2.2.2.1.length : Int) then
 vfk x.2.2.2.1 (t0.1) (49 : Int) (fun y18 =>
 if 0 ≤ x.2.2.1 ∧ x.2.2.1 < (x.2.2.2.2.1.length : Int) then
 bif (y16.2 == t0.2.2) then
 k (.inr (.inl t1))
 else
 if 0 ≤ x.2.2.1 ∧ x.2.2.1 < (x.2.2.2.2.1.length : Int) then
 bif (!(vap y16.1 (t0.2.1))) then
 k (.inr (.inl t1))
 else
 bif (!(vap y17.1 y18.1)) then
 k (.inr (.inl t1))
 else
 bif (!(y17.2 == y18.2)) then
 k (.inr (.inl t1))
 else
 k (.inl (x.1, x.2.1, (IntKind.wrap .i64 (x.2.2.1 + 1)), x.2.2.2.1, x.2.2.2.2.1, x.2.2.2.2.2))
 else none
 else none)
 else none)
 else none)
 else none
 else
 k (.inr (.inr (x.1, x.2.1, x.2.2.1, x.2.2.2.1, x.2.2.2.2.1, x.2.2.2.2.2)))
instance n15n_bp0 (x : q0T) : ParC (vge x) := by unfold vge; (try dsimp only); exact ⟨(va2 (vb0 ((n09n_p _ _ _).p.bind fun y16 => (vb0 ((n09n_p _ _ _).p.bind fun y17 => (vb0 ((n09n_p _ _ _).p.bind fun y18 => (vb0 (va2 (val _) (vb0 (va2 (val _) (va2 (val _) (va2 (val _) (val _)))) vbc)) vbc)) vbc)) vbc)) vbc) (val _))⟩
def vwp (a0 : (List Int)) (k : Bool → Option Res) : Option Res :=
 vnw a0 (fun y1 =>
 bif y1 then
 k true
 else
 vos a0 (fun y2 =>
 vnh a0 (fun y3 =>
 vme y2 y3 (50 : Int) (fun y4 =>
 vah vge Fuel (a0, false, 0, y2, y3, y4) (Sum.elim (fun z5 =>
 k z5.2.1) (fun z6 =>
 voi z6.1 (fun y7 =>
 vfk y7.2.2 y7.1 y7.2.1 (fun y8 =>
 vn5 y7.2.2 y7.1 y7.2.1 (fun y9 =>
 vlo z6.2.2.2.2.2 (fun y10 =>
 bif y10 then
 bif ((z6.2.2.2.2.2.length : Int) == (IntKind.wrap .i64 ((z6.2.2.2.1.length : Int) + (z6.2.2.2.2.1.length : Int)))) then
 bif (vap y8.1 y9.1) then
 bif (y8.2 == y9.2) then
 vmc  (fun y11 =>
 vki z6.2.2.2.2.2 y11 (49 : Int) (fun y12 =>
 vmc  (fun y13 =>
 vki z6.2.2.2.1 y13 (49 : Int) (fun y14 =>
 vlw y12 y14 (fun y15 =>
 k y15)))))
 else
 k false
 else
 k false
 else
 k false
 else
 k false))))))))))
def vsf := shut vwp
theorem vzm : vsf = vwp := vaj _
instance n15n_p (a0 : (List Int)) : ParC (vsf a0) := by rw [vzm]; unfold vwp; (try dsimp only); exact ⟨((n17n_p _).p.bind fun y1 => (va2 (val _) ((n24n_p _).p.bind fun y2 => ((n25n_p _).p.bind fun y3 => ((n06n_p _ _ _).p.bind fun y4 => ((vp8 (fun x => (n15n_bp0 x).p) _ _).bind2 (fun z5 => (val _)) (fun z6 => ((n23n_p _).p.bind fun y7 => ((n09n_p _ _ _).p.bind fun y8 => ((n28n_p _ _ _).p.bind fun y9 => ((n10n_p _).p.bind fun y10 => (va2 (va2 (va2 (va2 (n16n_p.p.bind fun y11 => ((n08n_p _ _ _).p.bind fun y12 => (n16n_p.p.bind fun y13 => ((n08n_p _ _ _).p.bind fun y14 => ((n18n_p _ _).p.bind fun y15 => (val _)))))) (val _)) (val _)) (val _)) (val _)))))))))))))⟩
def v5d (args : List AV) (st : St) (k : K1) : Option Res :=
 vam [.lst (.int .u8)] [] args st (fun p q => vnw p.1 (fun (y : Bool) => k (.bool y) []))
 (none)
def v39 (args : List AV) (st : St) (k : K1) : Option Res :=
 vam [.lst (.int .u8)] [] args st (fun p q => vl4 p.1 (fun (y : ((List Int) × Int × Int)) => k (.bp 0 0) [.box [.lst (.int .u8) y.1, .i y.2.1, .i y.2.2]]))
 (none)
def v37 (args : List AV) (st : St) (k : K1) : Option Res :=
 vam [.bp 0 0] [.box [.lst (.int .u8), .i, .i]] args st (fun p q => vjb q.1.1 q.1.2.1 q.1.2.2.1 (fun (y : (Int × (List Int) × Int × Int)) => k (.i y.1) [.box [.lst (.int .u8) y.2.1, .i y.2.2.1, .i y.2.2.2]]))
 (none)
def v4l (args : List AV) (st : St) (k : K1) : Option Res :=
 vam [.bp 0 0, .i] [.box [.lst (.int .u8), .i, .i]] args st (fun p q => vhi p.2.1 q.1.1 q.1.2.1 q.1.2.2.1 (fun (y : (Int × (List Int) × Int × Int)) => k (.i y.1) [.box [.lst (.int .u8) y.2.1, .i y.2.2.1, .i y.2.2.2]]))
 (none)
def v34 (args : List AV) (st : St) (k : K1) : Option Res :=
 vam [.bp 0 0, .lst .str] [.box [.lst (.int .u8), .i, .i]] args st (fun p q => vo0 p.2.1 q.1.1 q.1.2.1 q.1.2.2.1 (fun (y : q15T) => k (.str y.1) [.box [.lst (.int .u8) y.2.1, .i y.2.2.1, .i y.2.2.2]]))
 (none)
def v35 (args : List AV) (st : St) (k : K1) : Option Res :=
 vam [.bp 0 0] [.box [.lst (.int .u8), .i, .i]] args st (fun p q => vls q.1.1 q.1.2.1 q.1.2.2.1 (fun (y : q15T) => k (.str y.1) [.box [.lst (.int .u8) y.2.1, .i y.2.2.1, .i y.2.2.2]]))
 (none)
def v4o (args : List AV) (st : St) (k : K1) : Option Res :=
 vam [.bp 0 0, .i] [.box [.lst (.int .u8), .i, .i]] args st (fun p q => vrc p.2.1 q.1.1 q.1.2.1 q.1.2.2.1 (fun (y : (Bool × (List Int) × Int × Int)) => k (.bool y.1) [.box [.lst (.int .u8) y.2.1, .i y.2.2.1, .i y.2.2.2]]))
 (none)
def v4x (args : List AV) (st : St) (k : K1) : Option Res :=
 vam [.bp 0 0] [.box [.lst (.int .u8), .i, .i]] args st (fun p q => vq1 q.1.1 q.1.2.1 q.1.2.2.1 (fun (y : q16T) => k (.agg [.str y.1, .str y.2.1, .bool y.2.2.1]) [.box [.lst (.int .u8) y.2.2.2.1, .i y.2.2.2.2.1, .i y.2.2.2.2.2]]))
 (none)
def v5c (args : List AV) (st : St) (k : K1) : Option Res :=
 vam [.lst tWrite, .agg [.str, .str, .bool]] [] args st (fun p q => vmz p.1 (p.2.1.1, (p.2.1.2.1, p.2.1.2.2.1)) (fun (y : (List vak)) => k (.own 0) [.arr tWrite y]))
 (none)
def v4e (args : List AV) (st : St) (k : K1) : Option Res :=
 vam [.bp 0 0] [.box [.lst (.int .u8), .i, .i]] args st (fun p q => voo q.1.1 q.1.2.1 q.1.2.2.1 (fun (y : q2T) => k (.own 1) [.box [.lst (.int .u8) y.1, .i y.2.1, .i y.2.2.1], .arr tWrite y.2.2.2]))
 (none)
def v4v (args : List AV) (st : St) (k : K1) : Option Res :=
 vam [.lst tVersion, .lst tWrite, .i] [] args st (fun p q => voa p.1 p.2.1 p.2.2.1 (fun (y : (List vaa)) => k (.own 0) [.arr tVersion y]))
 (none)
def v4q (args : List AV) (st : St) (k : K1) : Option Res :=
 vam [.bp 0 0] [.box [.lst (.int .u8), .i, .i]] args st (fun p q => vn0 q.1.1 q.1.2.1 q.1.2.2.1 (fun (y : q1T) => k (.own 1) [.box [.lst (.int .u8) y.1, .i y.2.1, .i y.2.2.1], .arr tVersion y.2.2.2]))
 (none)
def v4f (args : List AV) (st : St) (k : K1) : Option Res :=
 vam [.lst (.int .u8)] [] args st (fun p q => vos p.1 (fun (y : (List vaa)) => k (.own 0) [.arr tVersion y]))
 (none)
def v5f (args : List AV) (st : St) (k : K1) : Option Res :=
 vam [.lst (.int .u8)] [] args st (fun p q => vnh p.1 (fun (y : (List vak)) => k (.own 0) [.arr tWrite y]))
 (none)
def v38 (args : List AV) (st : St) (k : K1) : Option Res :=
 vam [.str] [] args st (fun p q => vsb p.1 (fun (y : Bool) => k (.bool y) []))
 (none)
def v41 (args : List AV) (st : St) (k : K1) : Option Res :=
 vam [.str, .str] [] args st (fun p q => vq7 p.1 p.2.1 (fun (y : Int) => k (.i y) []))
 (none)
def v44 (args : List AV) (st : St) (k : K1) : Option Res :=
 vam [.i] [] args st (fun p q => vrw p.1 (fun (y : Bool) => k (.bool y) []))
 (none)
def v42 (args : List AV) (st : St) (k : K1) : Option Res :=
 vam [.i, .i] [] args st (fun p q => vrb p.1 p.2.1 (fun (y : Int) => k (.i y) []))
 (none)
def v4p (args : List AV) (st : St) (k : K1) : Option Res :=
 vam [.agg [.str, .str, .bool, .i], .agg [.str, .str, .bool, .i]] [] args st (fun p q => vjr (p.1.1, (p.1.2.1, (p.1.2.2.1, p.1.2.2.2.1))) (p.2.1.1, (p.2.1.2.1, (p.2.1.2.2.1, p.2.1.2.2.2.1))) (fun (y : Int) => k (.i y) []))
 (none)
def v4a (args : List AV) (st : St) (k : K1) : Option Res :=
 vam [.agg [.str, .str, .bool, .i], .bp 0 0] [.box [.str, .str, .bool, .i]] args st (fun p q => vsy (p.1.1, (p.1.2.1, (p.1.2.2.1, p.1.2.2.2.1))) q.1.1 q.1.2.1 q.1.2.2.1 q.1.2.2.2.1 (fun (y : q14T) => k (.bool y.1) [.box [.str y.2.1, .str y.2.2.1, .bool y.2.2.2.1, .i y.2.2.2.2]]))
 (none)
def vcl (args : List AV) (st : St) (k : K1) : Option Res :=
 vam [.lst tVersion, .fn 78 [.bp 0 0]] [.box [.str, .str, .bool, .i]] args st (fun p q => voz p.1 q.1.1 q.1.2.1 q.1.2.2.1 q.1.2.2.2.1 (fun (y : q22T) => k (.i y.1) [.box [.str y.2.1, .str y.2.2.1, .bool y.2.2.2.1, .i y.2.2.2.2]]))
 (none)
def vb1 (args : List AV) (st : St) (k : K1) : Option Res :=
 vam [.own 0, .i, .own 1] [.arr tVersion, .arr tVersion] args st (fun p q => vkv p.2.1 q.1 q.2.1 (fun (y : q4T) => k (.own 2) [.gone, .arr tVersion y.1, .arr tVersion y.2]))
 (none)
def v4g (args : List AV) (st : St) (k : K1) : Option Res :=
 vam [.lst tVersion, .lst tWrite, .i] [] args st (fun p q => vme p.1 p.2.1 p.2.2.1 (fun (y : (List vaa)) => k (.own 0) [.arr tVersion y]))
 (none)
def v49 (args : List AV) (st : St) (k : K1) : Option Res :=
 vam [.lst tVersion, .str, .i] [] args st (fun p q => voh p.1 p.2.1 p.2.2.1 (fun (y : Int) => k (.i y) []))
 (none)
def v5b (args : List AV) (st : St) (k : K1) : Option Res :=
 vam [.lst tVersion, .str, .i] [] args st (fun p q => vfk p.1 p.2.1 p.2.2.1 (fun (y : (ByteArray × Bool)) => k (.tup [.str y.1, .bool y.2]) []))
 (none)
def v4h (args : List AV) (st : St) (k : K1) : Option Res :=
 vam [.i, .int .u8] [] args st (fun p q => vrs p.1 p.2.1 (fun (y : ByteArray) => k (.str y) []))
 (none)
def v4m (args : List AV) (st : St) (k : K1) : Option Res :=
 vam [.bp 0 0] [.box [.lst (.int .u8), .i, .i]] args st (fun p q => vr4 q.1.1 q.1.2.1 q.1.2.2.1 (fun (y : q1T) => k (.own 1) [.box [.lst (.int .u8) y.1, .i y.2.1, .i y.2.2.1], .arr tVersion y.2.2.2]))
 (none)
def v40 (args : List AV) (st : St) (k : K1) : Option Res :=
 vam [.lst (.int .u8)] [] args st (fun p q => voi p.1 (fun (y : q17T) => k (.tup [.own 0, .str y.1, .i y.2.1]) [.arr tVersion y.2.2]))
 (none)
def v47 (args : List AV) (st : St) (k : K1) : Option Res :=
 vam [.lst tVersion, .str, .i] [] args st (fun p q => vo2 p.1 p.2.1 p.2.2.1 (fun (y : Int) => k (.i y) []))
 (none)
def v5g (args : List AV) (st : St) (k : K1) : Option Res :=
 vam [.lst tVersion, .str, .i] [] args st (fun p q => vn5 p.1 p.2.1 p.2.2.1 (fun (y : (ByteArray × Bool)) => k (.tup [.str y.1, .bool y.2]) []))
 (none)
def v4t (args : List AV) (st : St) (k : K1) : Option Res :=
 vam [.i, .i, .i] [] args st (fun p q => via p.1 p.2.1 p.2.2.1 (fun (y : Bool) => k (.bool y) []))
 (none)
def v4r (args : List AV) (st : St) (k : K1) : Option Res :=
 vam [.str] [] args st (fun p q => vl1 p.1 (fun (y : Bool) => k (.bool y) []))
 (none)
def v4b (args : List AV) (st : St) (k : K1) : Option Res :=
 vam [.lst tVersion] [] args st (fun p q => vlo p.1 (fun (y : Bool) => k (.bool y) []))
 (none)
def v48 (args : List AV) (st : St) (k : K1) : Option Res :=
 vam [] [] args st (fun p q => vmc  (fun (y : (ByteArray × ByteArray)) => k (.agg [.str y.1, .str y.2]) []))
 (none)
def vcp (args : List AV) (st : St) (k : K1) : Option Res :=
 vam [.own 0] [.arr .str] args st (fun p q => vot q.1 (fun (y : (List ByteArray)) => k (.tup []) [.arr .str y]))
 (none)
def vc5 (args : List AV) (st : St) (k : K1) : Option Res :=
 vam [.own 0] [.arr .str] args st (fun p q => vl5 q.1 (Sum.elim (fun (y : (List ByteArray)) => k (.own 0) [.arr .str y]) (fun (y : (List ByteArray)) => k (.own 1) [.gone, .arr .str y])))
 (none)
def v4w (args : List AV) (st : St) (k : K1) : Option Res :=
 vam [.lst tVersion] [] args st (fun p q => vny p.1 (fun (y : (List ByteArray)) => k (.own 0) [.arr .str y]))
 (none)
def v4k (args : List AV) (st : St) (k : K1) : Option Res :=
 vam [.agg [.str, .str], .str] [] args st (fun p q => vnj (p.1.1, p.1.2.1) p.2.1 (fun (y : Bool) => k (.bool y) []))
 (none)
def v5e (args : List AV) (st : St) (k : K1) : Option Res :=
 vam [.lst tVersion, .agg [.str, .str], .i] [] args st (fun p q => vki p.1 (p.2.1.1, p.2.1.2.1) p.2.2.1 (fun (y : (List vca)) => k (.own 0) [.arr tRange y]))
 (none)
def v4u (args : List AV) (st : St) (k : K1) : Option Res :=
 vam [.lst tRange, .lst tRange] [] args st (fun p q => vlw p.1 p.2.1 (fun (y : Bool) => k (.bool y) []))
 (none)
def vyr (args : List AV) (st : St) (k : K1) : Option Res :=
 vam [.lst (.int .u8)] [] args st (fun p q => vsf p.1 (fun (y : Bool) => k (.bool y) []))
 (none)
end
end Go.VE
