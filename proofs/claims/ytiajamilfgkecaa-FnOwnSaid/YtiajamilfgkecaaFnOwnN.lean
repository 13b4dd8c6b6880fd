/- Native programs of the functions, written by gen.py. -/
import Derived.Test.YtiajamilfgkecaaT0
import Derived.Test.YtiajamilfgkecaaU28
namespace Go.VE
noncomputable section
set_option linter.unusedVariables false
set_option linter.unusedSimpArgs false
set_option maxRecDepth 100000
abbrev q0T : Type := ((List Int) × Int × Int × (List vai))
abbrev q1T : Type := ((List Int) × Int × Int × (List vaa))
abbrev q2T : Type := ((List Int) × Int × Int × (List vah))
abbrev q3T : Type := ((List vai) × (List vai) × Bool × Int)
abbrev q4T : Type := ((List vaa) × (List vah) × Int × Int × Int × Int × Int × Int × (List vai) × (List vah) × Bool × ByteArray × ByteArray × ByteArray × (List ByteArray))
abbrev q5T : Type := ((List vaa) × ByteArray × ByteArray × Bool × Int × Int × Int × Int × Int × (List vai) × (List vah) × Bool × ByteArray)
abbrev q6T : Type := ((List vaa) × ByteArray × Int × Int × (List vaa) × Int × Int)
abbrev q7T : Type := ((List vaa) × ByteArray × Int × Int × Int)
abbrev q8T : Type := ((List vaa) × Int × ByteArray × ByteArray × (List ByteArray))
abbrev q9T : Type := ((List vaa) × Int × ByteArray × Int × ByteArray × ByteArray × (List ByteArray) × (List ByteArray))
abbrev q10T : Type := ((List vaa) × Int × Int × (List ByteArray))
abbrev q11T : Type := ((List vaa) × Int × Int × Int × ByteArray × ByteArray × (List vai) × (List ByteArray))
abbrev q12T : Type := ((List vaa) × Int × Int × Int × Int × Int × (List vai) × (List vah) × Bool × ByteArray × (List vai) × (List ByteArray))
abbrev q13T : Type := ((List vaa) × Int × Int × Int × Int × Int × (List vai) × (List vah) × Bool × ByteArray × ByteArray × ByteArray × (List vaa))
abbrev q14T : Type := ((List vaa) × Int × Int × Int × Int × Int × Int × (List vai) × (List vah) × Bool × ByteArray × ByteArray × ByteArray × (List vai) × (List ByteArray))
abbrev q15T : Type := ((List vah) × Int × ByteArray × ByteArray × Bool × (List vah))
abbrev q16T : Type := ((List vah) × Int × Int × (List vaa))
abbrev q17T : Type := ((List vah) × Int × Int × Int × (List vaa) × ByteArray × ByteArray × Bool × Int × (List vaa))
abbrev q18T : Type := ((List vah) × Int × Int × Int × ByteArray)
abbrev q19T : Type := (Bool × Int × Int × Int × Int × Int × Bool × ByteArray × (List vaa) × (List vai) × (List vai) × (List vah))
abbrev q20T : Type := (ByteArray × (List Int) × Int × Int)
abbrev q21T : Type := (ByteArray × ByteArray × (List Int) × Int × Int)
abbrev q22T : Type := (ByteArray × ByteArray × Bool × (List Int) × Int × Int)
abbrev q23T : Type := (Int × (List ByteArray) × (List ByteArray))
abbrev q24T : Type := (Int × (List Int) × Int × Int × (List vai))
abbrev q25T : Type := (Int × (List Int) × Int × Int × (List vaa))
abbrev q26T : Type := (Int × (List Int) × Int × Int × (List vah))
abbrev q27T : Type := (Int × Int × Int × Int × Bool × ByteArray × (List Int) × Int × Int × (List vai) × (List vah))
abbrev q28T : Type := (Int × Int × Int × Int × Bool × ByteArray × (List vai) × (List vah))
def v0a (a0 : (List Int)) (k : Bool → Option Res) : Option Res :=
 k (decide ((a0.length : Int) > (1048576 : Int)))
def vo3 := shut v0a
theorem vz5 : vo3 = v0a := vam _
instance n11n_p (a0 : (List Int)) : ParC (vo3 a0) := by rw [vz5]; unfold v0a; (try dsimp only); infer_instance
def vc2 (x : ((List Int) × Int × Int)) (k : ((List Int) × Int × Int) → Option Res) : Option Res :=
 if 0 ≤ x.2.2 ∧ x.2.2 < (x.1.length : Int) then
 k (x.1, (IntKind.wrap .i64 (BitVec.ofInt (IntKind.bits .i64) (IntKind.wrap .i64 ((IntKind.wrap .i64 ((IntKind.wrap .i64 (x.2.1 * (131 : Int))) + (IntKind.wrap .i64 (rd (Ty.zero (.int .u8)) x.1 x.2.2)))) + 7)) &&& BitVec.ofInt (IntKind.bits .i64) (1073741823 : Int)).toNat), (IntKind.wrap .i64 (x.2.2 + 1)))
 else none
instance n26n_jp6000001 (x : ((List Int) × Int × Int)) : ParC (vc2 x) := by unfold vc2; (try dsimp only); infer_instance
def viw (x : ((List Int) × Int × Int)) (k : ((List Int) × Int × Int) ⊕ ((List Int) × Int × Int) → Option Res) : Option Res :=
 bif (decide (x.2.2 < (x.1.length : Int))) then
 bif (decide (x.2.2 < 4000)) then
 vc2 (x.1, x.2.1, x.2.2) (fun z2 =>
 k (.inl (z2.1, z2.2.1, z2.2.2)))
 else
 k (.inr (x.1, x.2.1, x.2.2))
 else
 k (.inr (x.1, x.2.1, x.2.2))
instance n26n_bp0 (x : ((List Int) × Int × Int)) : ParC (viw x) := by unfold viw; (try dsimp only); infer_instance
def vwn (a0 : (List Int)) (k : ((List Int) × Int × Int) → Option Res) : Option Res :=
 vac viw Fuel (a0, (IntKind.wrap .i64 ((77601 : Int) + (a0.length : Int))), 0) (fun z1 =>
 k (z1.1, 0, z1.2.1))
def vnx := shut vwn
theorem vzh : vnx = vwn := vam _
instance n26n_p (a0 : (List Int)) : ParC (vnx a0) := by rw [vzh]; unfold vwn; (try dsimp only); infer_instance
def vvi (a0 : (List Int)) (a1 : Int) (a2 : Int) (k : (Int × (List Int) × Int × Int) → Option Res) : Option Res :=
 bif (decide (a1 < (a0.length : Int))) then
 if 0 ≤ a1 ∧ a1 < (a0.length : Int) then
 k ((IntKind.wrap .i64 (BitVec.ofInt (IntKind.bits .i64) (IntKind.wrap .i64 ((IntKind.wrap .i64 (BitVec.ofInt (IntKind.bits .i64) (IntKind.wrap .i64 (BitVec.ofInt (IntKind.bits .i64) ((IntKind.wrap .i64 ((IntKind.wrap .i64 (a2 * (6364136223846793005 : Int))) + 1442695040888963407)).fdiv (2 ^ (min (33 : Int).toNat (IntKind.bits .i64)))) ^^^ BitVec.ofInt (IntKind.bits .i64) ((IntKind.wrap .i64 ((IntKind.wrap .i64 (a2 * (6364136223846793005 : Int))) + 1442695040888963407)).fdiv (2 ^ (min (45 : Int).toNat (IntKind.bits .i64))))).toNat) &&& BitVec.ofInt (IntKind.bits .i64) (255 : Int)).toNat) + (IntKind.wrap .i64 (rd (Ty.zero (.int .u8)) a0 a1)))) &&& BitVec.ofInt (IntKind.bits .i64) (255 : Int)).toNat), a0, (IntKind.wrap .i64 (a1 + 1)), (IntKind.wrap .i64 ((IntKind.wrap .i64 (a2 * (6364136223846793005 : Int))) + 1442695040888963407)))
 else none
 else
 k ((IntKind.wrap .i64 (BitVec.ofInt (IntKind.bits .i64) (IntKind.wrap .i64 (BitVec.ofInt (IntKind.bits .i64) ((IntKind.wrap .i64 ((IntKind.wrap .i64 (a2 * (6364136223846793005 : Int))) + 1442695040888963407)).fdiv (2 ^ (min (33 : Int).toNat (IntKind.bits .i64)))) ^^^ BitVec.ofInt (IntKind.bits .i64) ((IntKind.wrap .i64 ((IntKind.wrap .i64 (a2 * (6364136223846793005 : Int))) + 1442695040888963407)).fdiv (2 ^ (min (45 : Int).toNat (IntKind.bits .i64))))).toNat) &&& BitVec.ofInt (IntKind.bits .i64) (255 : Int)).toNat), a0, a1, (IntKind.wrap .i64 ((IntKind.wrap .i64 (a2 * (6364136223846793005 : Int))) + 1442695040888963407)))
def vjx := shut vvi
theorem vy4 : vjx = vvi := vam _
instance n25n_p (a0 : (List Int)) (a1 : Int) (a2 : Int) : ParC (vjx a0 a1 a2) := by rw [vy4]; unfold vvi; (try dsimp only); infer_instance
def vwe (a0 : Int) (a1 : (List Int)) (a2 : Int) (a3 : Int) (k : (Int × (List Int) × Int × Int) → Option Res) : Option Res :=
 bif (decide (a0 ≤ 0)) then
 k (0, a1, a2, a3)
 else
 bif (decide (a0 ≤ 256)) then
 vjx a1 a2 a3 (fun y1 =>
 if a0 = 0 then none else
 k ((y1.1.tmod a0), y1.2.1, y1.2.2.1, y1.2.2.2))
 else
 vjx a1 a2 a3 (fun y2 =>
 vjx y2.2.1 y2.2.2.1 y2.2.2.2 (fun y3 =>
 vjx y3.2.1 y3.2.2.1 y3.2.2.2 (fun y4 =>
 vjx y4.2.1 y4.2.2.1 y4.2.2.2 (fun y5 =>
 if a0 = 0 then none else
 k (((IntKind.wrap .i64 ((IntKind.wrap .i64 ((IntKind.wrap .i64 ((IntKind.wrap .i64 (y2.1 * (16777216 : Int))) + (IntKind.wrap .i64 (y3.1 * (65536 : Int))))) + (IntKind.wrap .i64 (y4.1 * (256 : Int))))) + y5.1)).tmod a0), y5.2.1, y5.2.2.1, y5.2.2.2)))))
def vfl := shut vwe
theorem v0h : vfl = vwe := vam _
instance n24n_p (a0 : Int) (a1 : (List Int)) (a2 : Int) (a3 : Int) : ParC (vfl a0 a1 a2 a3) := by rw [v0h]; unfold vwe; (try dsimp only); exact ⟨(vim (vbz _) (vim ((n25n_p _ _ _).p.bind fun y1 => (vti vld (vbz _))) ((n25n_p _ _ _).p.bind fun y2 => ((n25n_p _ _ _).p.bind fun y3 => ((n25n_p _ _ _).p.bind fun y4 => ((n25n_p _ _ _).p.bind fun y5 => (vti vld (vbz _))))))))⟩
def vu6 (a0 : (List ByteArray)) (a1 : (List Int)) (a2 : Int) (a3 : Int) (k : q20T → Option Res) : Option Res :=
 vfl (a0.length : Int) a1 a2 a3 (fun y1 =>
 if 0 ≤ y1.1 ∧ y1.1 < (a0.length : Int) then
 k ((rd (Ty.zero .str) a0 y1.1), y1.2.1, y1.2.2.1, y1.2.2.2)
 else none)
def voi := shut vu6
theorem vzb : voi = vu6 := vam _
instance n28n_p (a0 : (List ByteArray)) (a1 : (List Int)) (a2 : Int) (a3 : Int) : ParC (voi a0 a1 a2 a3) := by rw [vzb]; unfold vu6; (try dsimp only); infer_instance
def vse (a0 : (List Int)) (a1 : Int) (a2 : Int) (k : q20T → Option Res) : Option Res :=
 voi [(⟨#[97]⟩ : ByteArray), (⟨#[98]⟩ : ByteArray), (⟨#[99]⟩ : ByteArray), (⟨#[100]⟩ : ByteArray), (⟨#[97, 98]⟩ : ByteArray)] a0 a1 a2 (fun y1 =>
 k (y1.1, y1.2.1, y1.2.2.1, y1.2.2.2))
def vi7 := shut vse
theorem vw1 : vi7 = vse := vam _
instance n29n_p (a0 : (List Int)) (a1 : Int) (a2 : Int) : ParC (vi7 a0 a1 a2) := by rw [vw1]; unfold vse; (try dsimp only); infer_instance
def vwd (a0 : Int) (a1 : (List Int)) (a2 : Int) (a3 : Int) (k : (Bool × (List Int) × Int × Int) → Option Res) : Option Res :=
 vfl a0 a1 a2 a3 (fun y1 =>
 k ((y1.1 == (0 : Int)), y1.2.1, y1.2.2.1, y1.2.2.2))
def vk4 := shut vwd
theorem v0p : vk4 = vwd := vam _
instance n27n_p (a0 : Int) (a1 : (List Int)) (a2 : Int) (a3 : Int) : ParC (vk4 a0 a1 a2 a3) := by rw [v0p]; unfold vwd; (try dsimp only); infer_instance
def vw3 (a0 : (List Int)) (a1 : Int) (a2 : Int) (k : q21T → Option Res) : Option Res :=
 vi7 a0 a1 a2 (fun y1 =>
 vk4 (2 : Int) y1.2.1 y1.2.2.1 y1.2.2.2 (fun y2 =>
 bif y2.1 then
 k (y1.1, y1.1, y2.2.1, y2.2.2.1, y2.2.2.2)
 else
 vi7 y2.2.1 y2.2.2.1 y2.2.2.2 (fun y3 =>
 bif (vab y3.1 y1.1) then
 k (y3.1, y1.1, y3.2.1, y3.2.2.1, y3.2.2.2)
 else
 k (y1.1, y3.1, y3.2.1, y3.2.2.1, y3.2.2.2))))
def vq1 := shut vw3
theorem vyw : vq1 = vw3 := vam _
instance n30n_p (a0 : (List Int)) (a1 : Int) (a2 : Int) : ParC (vq1 a0 a1 a2) := by rw [vyw]; unfold vw3; (try dsimp only); infer_instance
def vii (x : q24T) (k : q24T ⊕ q24T → Option Res) : Option Res :=
 vfl (4 : Int) x.2.1 x.2.2.1 x.2.2.2.1 (fun y2 =>
 bif (decide (x.1 < y2.1)) then
 vq1 y2.2.1 y2.2.2.1 y2.2.2.2 (fun y3 =>
 if x.2.2.2.2.length + [(y3.1, y3.2.1)].length ≤ VE.maxLen then
 k (.inl ((IntKind.wrap .i64 (x.1 + (1 : Int))), y3.2.2.1, y3.2.2.2.1, y3.2.2.2.2, (x.2.2.2.2 ++ [(y3.1, y3.2.1)])))
 else none)
 else
 k (.inr (x.1, y2.2.1, y2.2.2.1, y2.2.2.2, x.2.2.2.2)))
instance n31n_bp0 (x : q24T) : ParC (vii x) := by unfold vii; (try dsimp only); infer_instance
def vw4 (a0 : (List Int)) (a1 : Int) (a2 : Int) (k : q0T → Option Res) : Option Res :=
 vac vii Fuel (0, a0, a1, a2, ([] : List vai)) (fun z1 =>
 k (z1.2.1, z1.2.2.1, z1.2.2.2.1, z1.2.2.2.2))
def vrx := shut vw4
theorem vz1 : vrx = vw4 := vam _
instance n31n_p (a0 : (List Int)) (a1 : Int) (a2 : Int) : ParC (vrx a0 a1 a2) := by rw [vz1]; unfold vw4; (try dsimp only); infer_instance
def vwl (a0 : (List Int)) (a1 : Int) (a2 : Int) (k : q22T → Option Res) : Option Res :=
 vi7 a0 a1 a2 (fun y1 =>
 voi [(⟨#[111, 110, 101]⟩ : ByteArray), (⟨#[116, 119, 111]⟩ : ByteArray), (⟨#[]⟩ : ByteArray), (⟨#[120, 0]⟩ : ByteArray)] y1.2.1 y1.2.2.1 y1.2.2.2 (fun y2 =>
 vk4 (5 : Int) y2.2.1 y2.2.2.1 y2.2.2.2 (fun y3 =>
 bif y3.1 then
 k (y1.1, (⟨#[]⟩ : ByteArray), true, y3.2.1, y3.2.2.1, y3.2.2.2)
 else
 k (y1.1, y2.1, false, y3.2.1, y3.2.2.1, y3.2.2.2))))
def vrq := shut vwl
theorem v04 : vrq = vwl := vam _
instance n32n_p (a0 : (List Int)) (a1 : Int) (a2 : Int) : ParC (vrq a0 a1 a2) := by rw [v04]; unfold vwl; (try dsimp only); infer_instance
def vhm (x : q15T) (k : q15T ⊕ q15T → Option Res) : Option Res :=
 bif (decide (x.2.1 < (x.1.length : Int))) then
 if 0 ≤ x.2.1 ∧ x.2.1 < (x.1.length : Int) then
 bif (vab ((rd (Ty.zero tWrite) x.1 x.2.1).1) x.2.2.1) then
 if 0 ≤ x.2.1 ∧ x.2.1 < (x.1.length : Int) then
 if x.2.2.2.2.2.length + [(rd (Ty.zero tWrite) x.1 x.2.1)].length ≤ VE.maxLen then
 k (.inl (x.1, (IntKind.wrap .i64 (x.2.1 + (1 : Int))), x.2.2.1, x.2.2.2.1, x.2.2.2.2.1, (x.2.2.2.2.2 ++ [(rd (Ty.zero tWrite) x.1 x.2.1)])))
 else none
 else none
 else
 k (.inl (x.1, (IntKind.wrap .i64 (x.2.1 + 1)), x.2.2.1, x.2.2.2.1, x.2.2.2.2.1, x.2.2.2.2.2))
 else none
 else
 k (.inr (x.1, x.2.1, x.2.2.1, x.2.2.2.1, x.2.2.2.2.1, x.2.2.2.2.2))
instance n22n_bp0 (x : q15T) : ParC (vhm x) := by unfold vhm; (try dsimp only); infer_instance
def vgz (x : q15T) (k : q15T ⊕ q15T → Option Res) : Option Res :=
 bif (decide (x.2.1 < (x.1.length : Int))) then
 if 0 ≤ x.2.1 ∧ x.2.1 < (x.1.length : Int) then
 bif (!((vab ((rd (Ty.zero tWrite) x.1 x.2.1).1) x.2.2.1) || (vao ((rd (Ty.zero tWrite) x.1 x.2.1).1) x.2.2.1))) then
 if 0 ≤ x.2.1 ∧ x.2.1 < (x.1.length : Int) then
 if x.2.2.2.2.2.length + [(rd (Ty.zero tWrite) x.1 x.2.1)].length ≤ VE.maxLen then
 k (.inl (x.1, (IntKind.wrap .i64 (x.2.1 + (1 : Int))), x.2.2.1, x.2.2.2.1, x.2.2.2.2.1, (x.2.2.2.2.2 ++ [(rd (Ty.zero tWrite) x.1 x.2.1)])))
 else none
 else none
 else
 k (.inl (x.1, (IntKind.wrap .i64 (x.2.1 + 1)), x.2.2.1, x.2.2.2.1, x.2.2.2.2.1, x.2.2.2.2.2))
 else none
 else
 k (.inr (x.1, x.2.1, x.2.2.1, x.2.2.2.1, x.2.2.2.2.1, x.2.2.2.2.2))
instance n22n_bp2 (x : q15T) : ParC (vgz x) := by unfold vgz; (try dsimp only); infer_instance
def vvu (a0 : (List vah)) (a1 : vah) (k : (List vah) → Option Res) : Option Res :=
 vac vhm Fuel (a0, 0, a1.1, a1.2.1, a1.2.2, ([] : List vah)) (fun z1 =>
 if z1.2.2.2.2.2.length + [(z1.2.2.1, (z1.2.2.2.1, z1.2.2.2.2.1))].length ≤ VE.maxLen then
 vac vgz Fuel (z1.1, (0 : Int), z1.2.2.1, z1.2.2.2.1, z1.2.2.2.2.1, (z1.2.2.2.2.2 ++ [(z1.2.2.1, (z1.2.2.2.1, z1.2.2.2.2.1))])) (fun z2 =>
 k z2.2.2.2.2.2)
 else none)
def vmo := shut vvu
theorem vyr : vmo = vvu := vam _
instance n22n_p (a0 : (List vah)) (a1 : vah) : ParC (vmo a0 a1) := by rw [vyr]; unfold vvu; (try dsimp only); infer_instance
def vip (x : q26T) (k : q26T ⊕ q26T → Option Res) : Option Res :=
 vfl (4 : Int) x.2.1 x.2.2.1 x.2.2.2.1 (fun y2 =>
 bif (decide (x.1 < y2.1)) then
 vrq y2.2.1 y2.2.2.1 y2.2.2.2 (fun y3 =>
 vmo x.2.2.2.2 (y3.1, (y3.2.1, y3.2.2.1)) (fun y4 =>
 k (.inl ((IntKind.wrap .i64 (x.1 + 1)), y3.2.2.2.1, y3.2.2.2.2.1, y3.2.2.2.2.2, y4))))
 else
 k (.inr (x.1, y2.2.1, y2.2.2.1, y2.2.2.2, x.2.2.2.2)))
instance n33n_bp0 (x : q26T) : ParC (vip x) := by unfold vip; (try dsimp only); infer_instance
def vwq (a0 : (List Int)) (a1 : Int) (a2 : Int) (k : q2T → Option Res) : Option Res :=
 vac vip Fuel (0, a0, a1, a2, ([] : List vah)) (fun z1 =>
 k (z1.2.1, z1.2.2.1, z1.2.2.2.1, z1.2.2.2.2))
def vn0 := shut vwq
theorem v0b : vn0 = vwq := vam _
instance n33n_p (a0 : (List Int)) (a1 : Int) (a2 : Int) : ParC (vn0 a0 a1 a2) := by rw [v0b]; unfold vwq; (try dsimp only); infer_instance
def vvv (a0 : (List Int)) (a1 : Int) (a2 : Int) (k : q27T → Option Res) : Option Res :=
 vfl (6 : Int) a0 a1 a2 (fun y1 =>
 vfl (3 : Int) y1.2.1 y1.2.2.1 y1.2.2.2 (fun y2 =>
 vfl (6 : Int) y2.2.1 y2.2.2.1 y2.2.2.2 (fun y3 =>
 vrx y3.2.1 y3.2.2.1 y3.2.2.2 (fun y4 =>
 vn0 y4.1 y4.2.1 y4.2.2.1 (fun y5 =>
 bif ((IntKind.wrap .i64 ((1 : Int) + y2.1)) == (2 : Int)) then
 vi7 y5.1 y5.2.1 y5.2.2.1 (fun y6 =>
 vk4 (2 : Int) y6.2.1 y6.2.2.1 y6.2.2.2 (fun y7 =>
 k ((IntKind.wrap .i64 ((1 : Int) + y1.1)), (IntKind.wrap .i64 ((1 : Int) + y2.1)), y3.1, 0, y7.1, y6.1, y7.2.1, y7.2.2.1, y7.2.2.2, y4.2.2.2, y5.2.2.2)))
 else
 bif ((IntKind.wrap .i64 ((1 : Int) + y2.1)) == (3 : Int)) then
 vfl (4 : Int) y5.1 y5.2.1 y5.2.2.1 (fun y8 =>
 vk4 (2 : Int) y8.2.1 y8.2.2.1 y8.2.2.2 (fun y9 =>
 k ((IntKind.wrap .i64 ((1 : Int) + y1.1)), (IntKind.wrap .i64 ((1 : Int) + y2.1)), y3.1, (IntKind.wrap .i64 ((IntKind.wrap .i64 (y3.1 + 1)) + y8.1)), y9.1, (⟨#[]⟩ : ByteArray), y9.2.1, y9.2.2.1, y9.2.2.2, y4.2.2.2, y5.2.2.2)))
 else
 k ((IntKind.wrap .i64 ((1 : Int) + y1.1)), (IntKind.wrap .i64 ((1 : Int) + y2.1)), y3.1, 0, false, (⟨#[]⟩ : ByteArray), y5.1, y5.2.1, y5.2.2.1, y4.2.2.2, y5.2.2.2))))))
def vrr := shut vvv
theorem v1i : vrr = vvv := vam _
instance n37n_p (a0 : (List Int)) (a1 : Int) (a2 : Int) : ParC (vrr a0 a1 a2) := by rw [v1i]; unfold vvv; (try dsimp only); exact ⟨((n24n_p _ _ _ _).p.bind fun y1 => ((n24n_p _ _ _ _).p.bind fun y2 => ((n24n_p _ _ _ _).p.bind fun y3 => ((n31n_p _ _ _).p.bind fun y4 => ((n33n_p _ _ _).p.bind fun y5 => (vim ((n29n_p _ _ _).p.bind fun y6 => ((n27n_p _ _ _ _).p.bind fun y7 => (vbz _))) (vim ((n24n_p _ _ _ _).p.bind fun y8 => ((n27n_p _ _ _ _).p.bind fun y9 => (vbz _))) (vbz _))))))))⟩
def vu3 (a0 : (List Int)) (k : q28T → Option Res) : Option Res :=
 vnx a0 (fun y1 =>
 vrr y1.1 y1.2.1 y1.2.2 (fun y2 =>
 let y2h := y2.2.2.2.2.2.2.2.2
 k (y2.1, y2.2.1, y2.2.2.1, y2.2.2.2.1, y2.2.2.2.2.1, y2.2.2.2.2.2.1, y2h.2.1, y2h.2.2)))
def vof := shut vu3
theorem v0c : vof = vu3 := vam _
instance n16n_p (a0 : (List Int)) : ParC (vof a0) := by rw [v0c]; unfold vu3; (try dsimp only); infer_instance
def vb9 (x : q17T) (k : q17T → Option Res) : Option Res :=
 let xh := x.2.2.2.2.2.2.2.2
 if 0 ≤ x.2.2.2.1 ∧ x.2.2.2.1 < (x.2.2.2.2.1.length : Int) then
 if xh.2.length + [(x.2.2.2.2.1.getD x.2.2.2.1.toNat (Ty.zero tVersion))].length ≤ VE.maxLen then
 k (x.1, x.2.1, x.2.2.1, (IntKind.wrap .i64 (x.2.2.2.1 + (1 : Int))), x.2.2.2.2.1, x.2.2.2.2.2.1, x.2.2.2.2.2.2.1, x.2.2.2.2.2.2.2.1, xh.1, (xh.2 ++ [(x.2.2.2.2.1.getD x.2.2.2.1.toNat (Ty.zero tVersion))]))
 else none
 else none
instance n21n_jp6000003 (x : q17T) : ParC (vb9 x) := by unfold vb9; (try dsimp only); infer_instance
def vi0 (x : q17T) (k : q17T ⊕ q17T → Option Res) : Option Res :=
 let xh := x.2.2.2.2.2.2.2.2
 let t0 := (x.1, x.2.1, x.2.2.1, x.2.2.2.1, x.2.2.2.2.1, x.2.2.2.2.2.1, x.2.2.2.2.2.2.1, x.2.2.2.2.2.2.2.1, xh.1, xh.2)
 let t1 := (x.2.2.2.2.1.getD x.2.2.2.1.toNat (Ty.zero tVersion))
 bif (decide (x.2.2.2.1 < (x.2.2.2.2.1.length : Int))) then
 if 0 ≤ x.2.2.2.1 ∧ x.2.2.2.1 < (x.2.2.2.2.1.length : Int) then
 bif (vab (t1.1) x.2.2.2.2.2.1) then
 vb9 t0 (fun z3 =>
 let z3h := z3.2.2.2.2.2.2.2.2
 k (.inl (z3.1, z3.2.1, z3.2.2.1, z3.2.2.2.1, z3.2.2.2.2.1, z3.2.2.2.2.2.1, z3.2.2.2.2.2.2.1, z3.2.2.2.2.2.2.2.1, z3h.1, z3h.2)))
 else
 if 0 ≤ x.2.2.2.1 ∧ x.2.2.2.1 < (x.2.2.2.2.1.length : Int) then
 bif (vao (t1.1) x.2.2.2.2.2.1) then
 if 0 ≤ x.2.2.2.1 ∧ x.2.2.2.1 < (x.2.2.2.2.1.length : Int) then
 bif (decide (t1.2.2.2 ≤ xh.1)) then
 vb9 t0 (fun z4 =>
 let z4h := z4.2.2.2.2.2.2.2.2
 k (.inl (z4.1, z4.2.1, z4.2.2.1, z4.2.2.2.1, z4.2.2.2.2.1, z4.2.2.2.2.2.1, z4.2.2.2.2.2.2.1, z4.2.2.2.2.2.2.2.1, z4h.1, z4h.2)))
 else
 k (.inr t0)
 else none
 else
 k (.inr t0)
 else none
 else none
 else
 k (.inr t0)
instance n21n_bp2 (x : q17T) : ParC (vi0 x) := by unfold vi0; (try dsimp only); infer_instance
def vis (x : q16T) (k : q16T ⊕ q16T → Option Res) : Option Res :=
 bif (decide (x.2.2.1 < (x.1.length : Int))) then
 if 0 ≤ x.2.2.1 ∧ x.2.2.1 < (x.1.length : Int) then
 if 0 ≤ x.2.2.1 ∧ x.2.2.1 < (x.1.length : Int) then
 if 0 ≤ x.2.2.1 ∧ x.2.2.1 < (x.1.length : Int) then
 vac vi0 Fuel (x.1, x.2.1, x.2.2.1, 0, x.2.2.2, (rd (Ty.zero tWrite) x.1 x.2.2.1).1, (rd (Ty.zero tWrite) x.1 x.2.2.1).2.1, (rd (Ty.zero tWrite) x.1 x.2.2.1).2.2, x.2.1, ([] : List vaa)) (fun z2 =>
 let z2h := z2.2.2.2.2.2.2.2.2
 if z2h.2.length + [(z2.2.2.2.2.2.1, (z2.2.2.2.2.2.2.1, (z2.2.2.2.2.2.2.2.1, z2h.1)))].length ≤ VE.maxLen then
 if 0 ≤ z2.2.2.2.1 ∧ z2.2.2.2.1 ≤ (z2.2.2.2.2.1.length : Int) then
 if (z2h.2 ++ [(z2.2.2.2.2.2.1, (z2.2.2.2.2.2.2.1, (z2.2.2.2.2.2.2.2.1, z2h.1)))]).length + (z2.2.2.2.2.1.drop z2.2.2.2.1.toNat).length ≤ VE.maxLen then
 k (.inl (z2.1, z2.2.1, (IntKind.wrap .i64 (z2.2.2.1 + (1 : Int))), ((z2h.2 ++ [(z2.2.2.2.2.2.1, (z2.2.2.2.2.2.2.1, (z2.2.2.2.2.2.2.2.1, z2h.1)))]) ++ (z2.2.2.2.2.1.drop z2.2.2.2.1.toNat))))
 else none
 else none
 else none)
 else none
 else none
 else none
 else
 k (.inr (x.1, x.2.1, x.2.2.1, x.2.2.2))
instance n21n_bp0 (x : q16T) : ParC (vis x) := by unfold vis; (try dsimp only); infer_instance
def vv8 (a0 : (List vaa)) (a1 : (List vah)) (a2 : Int) (k : (List vaa) → Option Res) : Option Res :=
 if ([] : List vaa).length + a0.length ≤ VE.maxLen then
 vac vis Fuel (a1, a2, 0, (([] : List vaa) ++ a0)) (fun z1 =>
 k z1.2.2.2)
 else none
def voa := shut vv8
theorem vyk : voa = vv8 := vam _
instance n21n_p (a0 : (List vaa)) (a1 : (List vah)) (a2 : Int) : ParC (voa a0 a1 a2) := by rw [vyk]; unfold vv8; (try dsimp only); infer_instance
def vi5 (x : q25T) (k : q25T ⊕ q25T → Option Res) : Option Res :=
 vfl (8 : Int) x.2.1 x.2.2.1 x.2.2.2.1 (fun y2 =>
 bif (decide (x.1 < y2.1)) then
 vn0 y2.2.1 y2.2.2.1 y2.2.2.2 (fun y3 =>
 voa x.2.2.2.2 y3.2.2.2 (IntKind.wrap .i64 (x.1 + 1)) (fun y4 =>
 k (.inl ((IntKind.wrap .i64 (x.1 + 1)), y3.1, y3.2.1, y3.2.2.1, y4))))
 else
 k (.inr (x.1, y2.2.1, y2.2.2.1, y2.2.2.2, x.2.2.2.2)))
instance n36n_bp0 (x : q25T) : ParC (vi5 x) := by unfold vi5; (try dsimp only); infer_instance
def vwa (a0 : (List Int)) (a1 : Int) (a2 : Int) (k : q1T → Option Res) : Option Res :=
 vac vi5 Fuel (0, a0, a1, a2, ([] : List vaa)) (fun z1 =>
 k (z1.2.1, z1.2.2.1, z1.2.2.2.1, z1.2.2.2.2))
def vrj := shut vwa
theorem v0g : vrj = vwa := vam _
instance n36n_p (a0 : (List Int)) (a1 : Int) (a2 : Int) : ParC (vrj a0 a1 a2) := by rw [v0g]; unfold vwa; (try dsimp only); infer_instance
def vwv (a0 : (List Int)) (k : (List vaa) → Option Res) : Option Res :=
 vnx a0 (fun y1 =>
 vrj y1.1 y1.2.1 y1.2.2 (fun y2 =>
 k y2.2.2.2))
def vnp := shut vwv
theorem v0t : vnp = vwv := vam _
instance n17n_p (a0 : (List Int)) : ParC (vnp a0) := by rw [v0t]; unfold vwv; (try dsimp only); infer_instance
def v0v  (k : (ByteArray × ByteArray) → Option Res) : Option Res :=
 k ((⟨#[97]⟩ : ByteArray), (⟨#[122, 122, 122]⟩ : ByteArray))
def vgg := shut v0v
theorem vy9 : vgg = v0v := vam _
instance n10n_p  : ParC (vgg ) := by rw [vy9]; unfold v0v; (try dsimp only); infer_instance
def vop (a0 : (List ByteArray)) (k : (List ByteArray) → Option Res) : Option Res :=
 if a0.length ≤ 1000000000 then
 k (vdy a0)
 else none
def vjg := shut vop
theorem vwt : vjg = vop := vam _
instance n15n_p (a0 : (List ByteArray)) : ParC (vjg a0) := by rw [vwt]; unfold vop; (try dsimp only); infer_instance
def vfv (x : (Int × Nat × Int × (List ByteArray))) (k : (Int × Nat × Int × (List ByteArray)) ⊕ (Int × Nat × Int × (List ByteArray)) → Option Res) : Option Res :=
 bif (decide (x.2.2.1 < ((x.2.2.2.length : Int) - ((x.2.1 : Nat) : Int)))) then
 if 0 ≤ x.2.2.1 ∧ x.2.2.1 < (x.2.2.2.length : Int) - ((x.2.1 : Nat) : Int) then
 if 0 ≤ (IntKind.wrap .i64 (x.2.2.1 - 1)) ∧ (IntKind.wrap .i64 (x.2.2.1 - 1)) < (x.2.2.2.length : Int) - ((x.2.1 : Nat) : Int) then
 bif (!(vao (x.2.2.2.getD (x.2.1 + x.2.2.1.toNat) (Ty.zero .str)) (x.2.2.2.getD (x.2.1 + (IntKind.wrap .i64 (x.2.2.1 - 1)).toNat) (Ty.zero .str)))) then
 if 0 ≤ x.2.2.1 ∧ x.2.2.1 < (x.2.2.2.length : Int) - ((x.2.1 : Nat) : Int) then
 if 0 ≤ x.1 ∧ x.1 < (x.2.2.2.length : Int) then
 k (.inl ((IntKind.wrap .i64 (x.1 + 1)), x.2.1, (IntKind.wrap .i64 (x.2.2.1 + 1)), (x.2.2.2.set x.1.toNat (x.2.2.2.getD (x.2.1 + x.2.2.1.toNat) (Ty.zero .str)))))
 else none
 else none
 else
 k (.inl (x.1, x.2.1, (IntKind.wrap .i64 (x.2.2.1 + 1)), x.2.2.2))
 else none
 else none
 else
 k (.inr (x.1, x.2.1, x.2.2.1, x.2.2.2))
instance n13n_bp2 (x : (Int × Nat × Int × (List ByteArray))) : ParC (vfv x) := by unfold vfv; (try dsimp only); infer_instance
def vez (x : q23T) (k : q23T ⊕ (q23T ⊕ (Int × (List ByteArray))) → Option Res) : Option Res :=
 bif (decide (x.1 < (x.2.1.length : Int))) then
 if 0 ≤ x.1 ∧ x.1 < (x.2.1.length : Int) then
 if 0 ≤ (IntKind.wrap .i64 (x.1 - 1)) ∧ (IntKind.wrap .i64 (x.1 - 1)) < (x.2.1.length : Int) then
 bif (vao (x.2.1.getD x.1.toNat (Ty.zero .str)) (x.2.1.getD (IntKind.wrap .i64 (x.1 - 1)).toNat (Ty.zero .str))) then
 if 0 ≤ x.1 ∧ x.1 ≤ (x.2.1.length : Int) then
 vac vfv Fuel (x.1, x.1.toNat, 1, x.2.1) (fun z3 =>
 if 0 ≤ z3.1 ∧ z3.1 ≤ (z3.2.2.2.length : Int) then
 if 0 ≤ z3.1 ∧ z3.1 ≤ ((z3.2.2.2.take z3.1.toNat ++ List.replicate (z3.2.2.2.length - z3.1.toNat) (Ty.zero .str)).length : Int) then
 k (.inr (.inr (z3.1, ((z3.2.2.2.take z3.1.toNat ++ List.replicate (z3.2.2.2.length - z3.1.toNat) (Ty.zero .str)).take z3.1.toNat))))
 else none
 else none)
 else none
 else
 k (.inl ((IntKind.wrap .i64 (x.1 + 1)), x.2.1, x.2.2))
 else none
 else none
 else
 k (.inr (.inl (x.1, x.2.1, x.2.2)))
instance n13n_bp0 (x : q23T) : ParC (vez x) := by unfold vez; (try dsimp only); infer_instance
def vvz (a0 : (List ByteArray)) (k : ((List ByteArray) ⊕ (List ByteArray)) → Option Res) : Option Res :=
 bif (decide ((a0.length : Int) < (2 : Int))) then
 k (.inl a0)
 else
 vac vez Fuel (1, a0, ([] : List ByteArray)) (Sum.elim (fun z1 =>
 k (.inl z1.2.1)) (fun z2 =>
 k (.inr z2.2)))
def vje := shut vvz
theorem vzi : vje = vvz := vam _
instance n13n_p (a0 : (List ByteArray)) : ParC (vje a0) := by rw [vzi]; unfold vvz; (try dsimp only); infer_instance
def vg7 (x : q10T) (k : q10T ⊕ q10T → Option Res) : Option Res :=
 bif (decide (x.2.2.1 < x.2.1)) then
 if 0 ≤ x.2.2.1 ∧ x.2.2.1 < (x.1.length : Int) then
 if x.2.2.2.length + [(rd (Ty.zero tVersion) x.1 x.2.2.1).1].length ≤ VE.maxLen then
 k (.inl (x.1, x.2.1, (IntKind.wrap .i64 (x.2.2.1 + (1 : Int))), (x.2.2.2 ++ [(rd (Ty.zero tVersion) x.1 x.2.2.1).1])))
 else none
 else none
 else
 k (.inr (x.1, x.2.1, x.2.2.1, x.2.2.2))
instance n05n_bp0 (x : q10T) : ParC (vg7 x) := by unfold vg7; (try dsimp only); infer_instance
def vwi (a0 : (List vaa)) (k : (List ByteArray) → Option Res) : Option Res :=
 vac vg7 Fuel (a0, (a0.length : Int), 0, ([] : List ByteArray)) (fun z1 =>
 vjg z1.2.2.2 (fun y2 =>
 vje y2 (Sum.elim (fun y3 =>
 k y3) (fun y4 =>
 k y4))))
def vk3 := shut vwi
theorem vz9 : vk3 = vwi := vam _
instance n05n_p (a0 : (List vaa)) : ParC (vk3 a0) := by rw [vz9]; unfold vwi; (try dsimp only); infer_instance
def v03 (a0 : vah) (a1 : ByteArray) (k : (Bool × ByteArray) → Option Res) : Option Res :=
 k ((vao a0.1 a1), a1)
def vnk := shut v03
theorem v0s : vnk = v03 := vam _
instance n08n_p (a0 : vah) (a1 : ByteArray) : ParC (vnk a0 a1) := by rw [v0s]; unfold v03; (try dsimp only); infer_instance
def vgp (x : q18T) (k : q18T ⊕ (q18T ⊕ q18T) → Option Res) : Option Res :=
 bif (decide (x.2.2.2.1 < x.2.2.1)) then
 if 0 ≤ x.2.2.2.1 ∧ x.2.2.2.1 < (x.1.length : Int) then
 vnk (rd (Ty.zero tWrite) x.1 x.2.2.2.1) x.2.2.2.2 (fun y3 =>
 bif y3.1 then
 k (.inr (.inl (x.1, x.2.2.2.1, x.2.2.1, x.2.2.2.1, y3.2)))
 else
 k (.inl (x.1, x.2.1, x.2.2.1, (IntKind.wrap .i64 (x.2.2.2.1 + 1)), y3.2)))
 else none
 else
 k (.inr (.inr (x.1, x.2.1, x.2.2.1, x.2.2.2.1, x.2.2.2.2)))
instance n14n_bp0 (x : q18T) : ParC (vgp x) := by unfold vgp; (try dsimp only); infer_instance
def vwp (a0 : (List vah)) (a1 : ByteArray) (k : (Int × ByteArray) → Option Res) : Option Res :=
 vac vgp Fuel (a0, 0, (a0.length : Int), 0, a1) (Sum.elim (fun z1 =>
 k (z1.2.1, z1.2.2.2.2)) (fun z2 =>
 k ((-1 : Int), z2.2.2.2.2)))
def vrv := shut vwp
theorem vz3 : vrv = vwp := vam _
instance n14n_p (a0 : (List vah)) (a1 : ByteArray) : ParC (vrv a0 a1) := by rw [vz3]; unfold vwp; (try dsimp only); infer_instance
def vwk (a0 : dTxn) (a1 : ByteArray) (k : Int → Option Res) : Option Res :=
 vrv a0.2.2.2.2.2.1 a1 (fun y1 =>
 k y1.1)
def vwr := shut vwk
theorem vze : vwr = vwk := vam _
instance n07n_p (a0 : dTxn) (a1 : ByteArray) : ParC (vwr a0 a1) := by rw [vze]; unfold vwk; (try dsimp only); infer_instance
def vg1 (x : q6T) (k : q6T ⊕ q6T → Option Res) : Option Res :=
 let t0 := (x.1, x.2.1, x.2.2.1, x.2.2.2.1, x.2.2.2.2.1, x.2.2.2.2.2.1, (IntKind.wrap .i64 (x.2.2.2.2.2.2 + (1 : Int))))
 bif (decide (x.2.2.2.2.2.2 < x.2.2.2.2.2.1)) then
 if 0 ≤ x.2.2.2.2.2.2 ∧ x.2.2.2.2.2.2 < (x.2.2.2.2.1.length : Int) then
 bif (vao ((rd (Ty.zero tVersion) x.2.2.2.2.1 x.2.2.2.2.2.2).1) x.2.1) then
 bif (decide ((rd (Ty.zero tVersion) x.2.2.2.2.1 x.2.2.2.2.2.2).2.2.2 ≤ x.2.2.1)) then
 bif (decide (x.2.2.2.1 < 0)) then
 k (.inl (x.1, x.2.1, x.2.2.1, x.2.2.2.2.2.2, x.2.2.2.2.1, x.2.2.2.2.2.1, (IntKind.wrap .i64 (x.2.2.2.2.2.2 + 1))))
 else
 if 0 ≤ x.2.2.2.1 ∧ x.2.2.2.1 < (x.1.length : Int) then
 bif (decide ((rd (Ty.zero tVersion) x.2.2.2.2.1 x.2.2.2.2.2.2).2.2.2 > (rd (Ty.zero tVersion) x.1 x.2.2.2.1).2.2.2)) then
 k (.inl (x.1, x.2.1, x.2.2.1, x.2.2.2.2.2.2, x.2.2.2.2.1, x.2.2.2.2.2.1, (IntKind.wrap .i64 (x.2.2.2.2.2.2 + 1))))
 else
 k (.inl t0)
 else none
 else
 k (.inl t0)
 else
 k (.inl t0)
 else none
 else
 k (.inr (x.1, x.2.1, x.2.2.1, x.2.2.2.1, x.2.2.2.2.1, x.2.2.2.2.2.1, x.2.2.2.2.2.2))
instance n06n_bp0 (x : q6T) : ParC (vg1 x) := by unfold vg1; (try dsimp only); infer_instance
def vvc (a0 : (List vaa)) (a1 : ByteArray) (a2 : Int) (k : Int → Option Res) : Option Res :=
 vac vg1 Fuel (a0, a1, a2, (-1 : Int), a0, (a0.length : Int), 0) (fun z1 =>
 k z1.2.2.2.1)
def vns := shut vvc
theorem vz0 : vns = vvc := vam _
instance n06n_p (a0 : (List vaa)) (a1 : ByteArray) (a2 : Int) : ParC (vns a0 a1 a2) := by rw [vz0]; unfold vvc; (try dsimp only); infer_instance
def vw5 (a0 : (List vaa)) (a1 : ByteArray) (a2 : Int) (k : (ByteArray × Bool) → Option Res) : Option Res :=
 vns a0 a1 a2 (fun y1 =>
 bif (decide (y1 < 0)) then
 k ((⟨#[]⟩ : ByteArray), false)
 else
 if 0 ≤ y1 ∧ y1 < (a0.length : Int) then
 bif (rd (Ty.zero tVersion) a0 y1).2.2.1 then
 k ((⟨#[]⟩ : ByteArray), false)
 else
 if 0 ≤ y1 ∧ y1 < (a0.length : Int) then
 k ((rd (Ty.zero tVersion) a0 y1).2.1, true)
 else none
 else none)
def voe := shut vw5
theorem vys : voe = vw5 := vam _
instance n04n_p (a0 : (List vaa)) (a1 : ByteArray) (a2 : Int) : ParC (voe a0 a1 a2) := by rw [vys]; unfold vw5; (try dsimp only); infer_instance
def vu7 (a0 : dTxn) (a1 : (List vaa)) (a2 : ByteArray) (k : (ByteArray × Bool) → Option Res) : Option Res :=
 vwr a0 a2 (fun y1 =>
 bif (decide (y1 ≥ 0)) then
 if 0 ≤ y1 ∧ y1 < (a0.2.2.2.2.2.1.length : Int) then
 bif (rd (Ty.zero tWrite) a0.2.2.2.2.2.1 y1).2.2 then
 k ((⟨#[]⟩ : ByteArray), false)
 else
 if 0 ≤ y1 ∧ y1 < (a0.2.2.2.2.2.1.length : Int) then
 k ((rd (Ty.zero tWrite) a0.2.2.2.2.2.1 y1).2.1, true)
 else none
 else none
 else
 voe a1 a2 a0.2.2.1 (fun y2 =>
 k (y2.1, y2.2)))
def vji := shut vu7
theorem vzk : vji = vu7 := vam _
instance n01n_p (a0 : dTxn) (a1 : (List vaa)) (a2 : ByteArray) : ParC (vji a0 a1 a2) := by rw [vzk]; unfold vu7; (try dsimp only); infer_instance
def vvk (a0 : vai) (a1 : ByteArray) (k : Bool → Option Res) : Option Res :=
 bif (!(vab a1 a0.1)) then
 k ((vab a1 a0.2) || (vao a1 a0.2))
 else
 k false
def vks := shut vvk
theorem vyq : vks = vvk := vam _
instance n00n_p (a0 : vai) (a1 : ByteArray) : ParC (vks a0 a1) := by rw [vyq]; unfold vvk; (try dsimp only); infer_instance
def vgw (x : q4T) (k : q4T ⊕ q4T → Option Res) : Option Res :=
 let xh := x.2.2.2.2.2.2.2.2
 bif (decide (x.2.2.2.1 < x.2.2.1)) then
 if 0 ≤ x.2.2.2.1 ∧ x.2.2.2.1 < (x.2.1.length : Int) then
 if xh.2.2.2.2.2.2.length + [(rd (Ty.zero tWrite) x.2.1 x.2.2.2.1).1].length ≤ VE.maxLen then
 k (.inl (x.1, x.2.1, x.2.2.1, (IntKind.wrap .i64 (x.2.2.2.1 + (1 : Int))), x.2.2.2.2.1, x.2.2.2.2.2.1, x.2.2.2.2.2.2.1, x.2.2.2.2.2.2.2.1, xh.1, xh.2.1, xh.2.2.1, xh.2.2.2.1, xh.2.2.2.2.1, xh.2.2.2.2.2.1, (xh.2.2.2.2.2.2 ++ [(rd (Ty.zero tWrite) x.2.1 x.2.2.2.1).1])))
 else none
 else none
 else
 k (.inr (x.1, x.2.1, x.2.2.1, x.2.2.2.1, x.2.2.2.2.1, x.2.2.2.2.2.1, x.2.2.2.2.2.2.1, x.2.2.2.2.2.2.2.1, xh.1, xh.2.1, xh.2.2.1, xh.2.2.2.1, xh.2.2.2.2.1, xh.2.2.2.2.2.1, xh.2.2.2.2.2.2))
instance n02n_bp0 (x : q4T) : ParC (vgw x) := by unfold vgw; (try dsimp only); infer_instance
def vdr (x : q14T) (k : q14T ⊕ q14T → Option Res) : Option Res :=
 let xh := x.2.2.2.2.2.2.2.2
 let t0 := (x.1, x.2.1, (IntKind.wrap .i64 (x.2.2.1 + (1 : Int))), x.2.2.2.1, x.2.2.2.2.1, x.2.2.2.2.2.1, x.2.2.2.2.2.2.1, x.2.2.2.2.2.2.2.1, xh.1, xh.2.1, xh.2.2.1, xh.2.2.2.1, xh.2.2.2.2.1, xh.2.2.2.2.2.1, xh.2.2.2.2.2.2)
 let t1 := (xh.2.2.2.2.2.2.getD x.2.2.1.toNat (Ty.zero .str))
 bif (decide (x.2.2.1 < x.2.1)) then
 if 0 ≤ x.2.2.1 ∧ x.2.2.1 < (xh.2.2.2.2.2.2.length : Int) then
 vji (x.2.2.2.1, (x.2.2.2.2.1, (x.2.2.2.2.2.1, (x.2.2.2.2.2.2.1, (x.2.2.2.2.2.2.2.1, (xh.1, (xh.2.1, xh.2.2.1))))))) x.1 t1 (fun y8 =>
 bif y8.2 then
 vks (xh.2.2.2.1, xh.2.2.2.2.1) t1 (fun y9 =>
 bif y9 then
 if xh.2.2.2.2.2.1.length + [(t1, y8.1)].length ≤ VE.maxLen then
 k (.inl (x.1, x.2.1, (IntKind.wrap .i64 (x.2.2.1 + (1 : Int))), x.2.2.2.1, x.2.2.2.2.1, x.2.2.2.2.2.1, x.2.2.2.2.2.2.1, x.2.2.2.2.2.2.2.1, xh.1, xh.2.1, xh.2.2.1, xh.2.2.2.1, xh.2.2.2.2.1, (xh.2.2.2.2.2.1 ++ [(t1, y8.1)]), xh.2.2.2.2.2.2))
 else none
 else
 k (.inl t0))
 else
 k (.inl t0))
 else none
 else
 k (.inr (x.1, x.2.1, x.2.2.1, x.2.2.2.1, x.2.2.2.2.1, x.2.2.2.2.2.1, x.2.2.2.2.2.2.1, x.2.2.2.2.2.2.2.1, xh.1, xh.2.1, xh.2.2.1, xh.2.2.2.1, xh.2.2.2.2.1, xh.2.2.2.2.2.1, xh.2.2.2.2.2.2))
instance n02n_bp2 (x : q14T) : ParC (vdr x) := by unfold vdr; (try dsimp only); infer_instance
def vvo (a0 : dTxn) (a1 : (List vaa)) (a2 : vai) (k : (List vai) → Option Res) : Option Res :=
 vk3 a1 (fun y1 =>
 vac vgw Fuel (a1, a0.2.2.2.2.2.1, (a0.2.2.2.2.2.1.length : Int), 0, a0.1, a0.2.1, a0.2.2.1, a0.2.2.2.1, a0.2.2.2.2.1, a0.2.2.2.2.2.1, a0.2.2.2.2.2.2.1, a0.2.2.2.2.2.2.2, a2.1, a2.2, y1) (fun z2 =>
 let z2h := z2.2.2.2.2.2.2.2.2
 vjg z2h.2.2.2.2.2.2 (fun y3 =>
 vje y3 (Sum.elim (fun y4 =>
 vac vdr Fuel (z2.1, (y4.length : Int), 0, z2.2.2.2.2.1, z2.2.2.2.2.2.1, z2.2.2.2.2.2.2.1, z2.2.2.2.2.2.2.2.1, z2h.1, z2h.2.1, z2h.2.2.1, z2h.2.2.2.1, z2h.2.2.2.2.1, z2h.2.2.2.2.2.1, ([] : List vai), y4) (fun z5 =>
 k z5.2.2.2.2.2.2.2.2.2.2.2.2.2.1)) (fun y6 =>
 vac vdr Fuel (z2.1, (y6.length : Int), 0, z2.2.2.2.2.1, z2.2.2.2.2.2.1, z2.2.2.2.2.2.2.1, z2.2.2.2.2.2.2.2.1, z2h.1, z2h.2.1, z2h.2.2.1, z2h.2.2.2.1, z2h.2.2.2.2.1, z2h.2.2.2.2.2.1, ([] : List vai), y6) (fun z7 =>
 k z7.2.2.2.2.2.2.2.2.2.2.2.2.2.1))))))
def vja := shut vvo
theorem vzp : vja = vvo := vam _
instance n02n_p (a0 : dTxn) (a1 : (List vaa)) (a2 : vai) : ParC (vja a0 a1 a2) := by rw [vzp]; unfold vvo; (try dsimp only); exact ⟨((n05n_p _).p.bind fun y1 => ((vgd (fun x => (n02n_bp0 x).p) _ _).bind fun z2 => ((n15n_p _).p.bind fun y3 => ((n13n_p _).p.bind2 (fun y4 => ((vgd (fun x => (n02n_bp2 x).p) _ _).bind fun z5 => (vbz _))) (fun y6 => ((vgd (fun x => (n02n_bp2 x).p) _ _).bind fun z7 => (vbz _)))))))⟩
def vfz (x : q11T) (k : q11T ⊕ q11T → Option Res) : Option Res :=
 let t0 := (x.2.2.2.2.2.2.2.getD x.2.2.2.1.toNat (Ty.zero .str))
 bif (decide (x.2.2.2.1 < x.2.2.1)) then
 if 0 ≤ x.2.2.2.1 ∧ x.2.2.2.1 < (x.2.2.2.2.2.2.2.length : Int) then
 voe x.1 t0 x.2.1 (fun y3 =>
 bif y3.2 then
 vks (x.2.2.2.2.1, x.2.2.2.2.2.1) t0 (fun y4 =>
 bif y4 then
 if x.2.2.2.2.2.2.1.length + [(t0, y3.1)].length ≤ VE.maxLen then
 k (.inl (x.1, x.2.1, x.2.2.1, (IntKind.wrap .i64 (x.2.2.2.1 + (1 : Int))), x.2.2.2.2.1, x.2.2.2.2.2.1, (x.2.2.2.2.2.2.1 ++ [(t0, y3.1)]), x.2.2.2.2.2.2.2))
 else none
 else
 k (.inl (x.1, x.2.1, x.2.2.1, (IntKind.wrap .i64 (x.2.2.2.1 + 1)), x.2.2.2.2.1, x.2.2.2.2.2.1, x.2.2.2.2.2.2.1, x.2.2.2.2.2.2.2)))
 else
 k (.inl (x.1, x.2.1, x.2.2.1, (IntKind.wrap .i64 (x.2.2.2.1 + 1)), x.2.2.2.2.1, x.2.2.2.2.2.1, x.2.2.2.2.2.2.1, x.2.2.2.2.2.2.2)))
 else none
 else
 k (.inr (x.1, x.2.1, x.2.2.1, x.2.2.2.1, x.2.2.2.2.1, x.2.2.2.2.2.1, x.2.2.2.2.2.2.1, x.2.2.2.2.2.2.2))
instance n03n_bp0 (x : q11T) : ParC (vfz x) := by unfold vfz; (try dsimp only); infer_instance
def vww (a0 : (List vaa)) (a1 : vai) (a2 : Int) (k : (List vai) → Option Res) : Option Res :=
 vk3 a0 (fun y1 =>
 vac vfz Fuel (a0, a2, (y1.length : Int), 0, a1.1, a1.2, ([] : List vai), y1) (fun z2 =>
 k z2.2.2.2.2.2.2.1))
def vol := shut vww
theorem v0q : vol = vww := vam _
instance n03n_p (a0 : (List vaa)) (a1 : vai) (a2 : Int) : ParC (vol a0 a1 a2) := by rw [v0q]; unfold vww; (try dsimp only); infer_instance
def vhb (x : q3T) (k : q3T ⊕ (q3T ⊕ q3T) → Option Res) : Option Res :=
 bif (decide (x.2.2.2 < (x.1.length : Int))) then
 if 0 ≤ x.2.2.2 ∧ x.2.2.2 < (x.1.length : Int) then
 if 0 ≤ x.2.2.2 ∧ x.2.2.2 < (x.2.1.length : Int) then
 bif (!(Ty.eqB tRange (rd (Ty.zero tRange) x.1 x.2.2.2) (rd (Ty.zero tRange) x.2.1 x.2.2.2))) then
 k (.inr (.inl (x.1, x.2.1, false, x.2.2.2)))
 else
 k (.inl (x.1, x.2.1, x.2.2.1, (IntKind.wrap .i64 (x.2.2.2 + 1))))
 else none
 else none
 else
 k (.inr (.inr (x.1, x.2.1, x.2.2.1, x.2.2.2)))
instance n12n_bp0 (x : q3T) : ParC (vhb x) := by unfold vhb; (try dsimp only); infer_instance
def vwy (a0 : (List vai)) (a1 : (List vai)) (k : Bool → Option Res) : Option Res :=
 bif ((a0.length : Int) != (a1.length : Int)) then
 k false
 else
 vac vhb Fuel (a0, a1, false, 0) (Sum.elim (fun z1 =>
 k z1.2.2.1) (fun _ =>
 k true))
def vl9 := shut vwy
theorem vyh : vl9 = vwy := vam _
instance n12n_p (a0 : (List vai)) (a1 : (List vai)) : ParC (vl9 a0 a1) := by rw [vyh]; unfold vwy; (try dsimp only); infer_instance
def vv0 (a0 : vai) (a1 : ByteArray) (k : Bool → Option Res) : Option Res :=
 bif (!(vab a1 a0.1)) then
 k ((vab a1 a0.2) || (vao a1 a0.2))
 else
 k false
def vo5 := shut vv0
theorem v0j : vo5 = vv0 := vam _
instance n18n_p (a0 : vai) (a1 : ByteArray) : ParC (vo5 a0 a1) := by rw [v0j]; unfold vv0; (try dsimp only); infer_instance
def vgr (x : q9T) (k : q9T ⊕ q9T → Option Res) : Option Res :=
 bif (decide (x.2.2.2.1 < (x.2.2.2.2.2.2.1.length : Int))) then
 if 0 ≤ x.2.2.2.1 ∧ x.2.2.2.1 < (x.2.2.2.2.2.2.1.length : Int) then
 bif (vab (x.2.2.2.2.2.2.1.getD x.2.2.2.1.toNat (Ty.zero .str)) x.2.2.1) then
 if 0 ≤ x.2.2.2.1 ∧ x.2.2.2.1 < (x.2.2.2.2.2.2.1.length : Int) then
 if x.2.2.2.2.2.2.2.length + [(x.2.2.2.2.2.2.1.getD x.2.2.2.1.toNat (Ty.zero .str))].length ≤ VE.maxLen then
 k (.inl (x.1, x.2.1, x.2.2.1, (IntKind.wrap .i64 (x.2.2.2.1 + (1 : Int))), x.2.2.2.2.1, x.2.2.2.2.2.1, x.2.2.2.2.2.2.1, (x.2.2.2.2.2.2.2 ++ [(x.2.2.2.2.2.2.1.getD x.2.2.2.1.toNat (Ty.zero .str))])))
 else none
 else none
 else
 k (.inl (x.1, x.2.1, x.2.2.1, (IntKind.wrap .i64 (x.2.2.2.1 + 1)), x.2.2.2.2.1, x.2.2.2.2.2.1, x.2.2.2.2.2.2.1, x.2.2.2.2.2.2.2))
 else none
 else
 k (.inr (x.1, x.2.1, x.2.2.1, x.2.2.2.1, x.2.2.2.2.1, x.2.2.2.2.2.1, x.2.2.2.2.2.2.1, x.2.2.2.2.2.2.2))
instance n35n_bp2 (x : q9T) : ParC (vgr x) := by unfold vgr; (try dsimp only); infer_instance
def vgq (x : q9T) (k : q9T ⊕ q9T → Option Res) : Option Res :=
 bif (decide (x.2.2.2.1 < (x.2.2.2.2.2.2.1.length : Int))) then
 if 0 ≤ x.2.2.2.1 ∧ x.2.2.2.1 < (x.2.2.2.2.2.2.1.length : Int) then
 bif (!((vab (x.2.2.2.2.2.2.1.getD x.2.2.2.1.toNat (Ty.zero .str)) x.2.2.1) || (vao (x.2.2.2.2.2.2.1.getD x.2.2.2.1.toNat (Ty.zero .str)) x.2.2.1))) then
 if 0 ≤ x.2.2.2.1 ∧ x.2.2.2.1 < (x.2.2.2.2.2.2.1.length : Int) then
 if x.2.2.2.2.2.2.2.length + [(x.2.2.2.2.2.2.1.getD x.2.2.2.1.toNat (Ty.zero .str))].length ≤ VE.maxLen then
 k (.inl (x.1, x.2.1, x.2.2.1, (IntKind.wrap .i64 (x.2.2.2.1 + (1 : Int))), x.2.2.2.2.1, x.2.2.2.2.2.1, x.2.2.2.2.2.2.1, (x.2.2.2.2.2.2.2 ++ [(x.2.2.2.2.2.2.1.getD x.2.2.2.1.toNat (Ty.zero .str))])))
 else none
 else none
 else
 k (.inl (x.1, x.2.1, x.2.2.1, (IntKind.wrap .i64 (x.2.2.2.1 + 1)), x.2.2.2.2.1, x.2.2.2.2.2.1, x.2.2.2.2.2.2.1, x.2.2.2.2.2.2.2))
 else none
 else
 k (.inr (x.1, x.2.1, x.2.2.1, x.2.2.2.1, x.2.2.2.2.1, x.2.2.2.2.2.1, x.2.2.2.2.2.2.1, x.2.2.2.2.2.2.2))
instance n35n_bp4 (x : q9T) : ParC (vgq x) := by unfold vgq; (try dsimp only); infer_instance
def vhc (x : q8T) (k : q8T ⊕ q8T → Option Res) : Option Res :=
 bif (decide (x.2.1 < (x.1.length : Int))) then
 if 0 ≤ x.2.1 ∧ x.2.1 < (x.1.length : Int) then
 vo5 (x.2.2.1, x.2.2.2.1) ((rd (Ty.zero tVersion) x.1 x.2.1).1) (fun y2 =>
 bif (!y2) then
 k (.inl (x.1, (IntKind.wrap .i64 (x.2.1 + 1)), x.2.2.1, x.2.2.2.1, x.2.2.2.2))
 else
 vac vgr Fuel (x.1, x.2.1, (rd (Ty.zero tVersion) x.1 x.2.1).1, 0, x.2.2.1, x.2.2.2.1, x.2.2.2.2, ([] : List ByteArray)) (fun z3 =>
 if z3.2.2.2.2.2.2.2.length + [z3.2.2.1].length ≤ VE.maxLen then
 vac vgq Fuel (z3.1, z3.2.1, z3.2.2.1, 0, z3.2.2.2.2.1, z3.2.2.2.2.2.1, z3.2.2.2.2.2.2.1, (z3.2.2.2.2.2.2.2 ++ [z3.2.2.1])) (fun z4 =>
 k (.inl (z4.1, (IntKind.wrap .i64 (z4.2.1 + 1)), z4.2.2.2.2.1, z4.2.2.2.2.2.1, z4.2.2.2.2.2.2.2)))
 else none))
 else none
 else
 k (.inr (x.1, x.2.1, x.2.2.1, x.2.2.2.1, x.2.2.2.2))
instance n35n_bp0 (x : q8T) : ParC (vhc x) := by unfold vhc; (try dsimp only); infer_instance
def vv7 (a0 : (List vaa)) (a1 : vai) (k : (List ByteArray) → Option Res) : Option Res :=
 vac vhc Fuel (a0, 0, a1.1, a1.2, ([] : List ByteArray)) (fun z1 =>
 k z1.2.2.2.2)
def voh := shut vv7
theorem v0u : voh = vv7 := vam _
instance n35n_p (a0 : (List vaa)) (a1 : vai) : ParC (voh a0 a1) := by rw [v0u]; unfold vv7; (try dsimp only); infer_instance
def vg4 (x : q7T) (k : q7T ⊕ q7T → Option Res) : Option Res :=
 let t0 := (IntKind.wrap .i64 (x.2.2.2.2 + (1 : Int)))
 bif (decide (x.2.2.2.2 < (x.1.length : Int))) then
 if 0 ≤ x.2.2.2.2 ∧ x.2.2.2.2 < (x.1.length : Int) then
 bif (vao ((rd (Ty.zero tVersion) x.1 x.2.2.2.2).1) x.2.1) then
 if 0 ≤ x.2.2.2.2 ∧ x.2.2.2.2 < (x.1.length : Int) then
 bif (decide ((rd (Ty.zero tVersion) x.1 x.2.2.2.2).2.2.2 ≤ x.2.2.1)) then
 bif (decide (x.2.2.2.1 < 0)) then
 k (.inl (x.1, x.2.1, x.2.2.1, x.2.2.2.2, t0))
 else
 if 0 ≤ x.2.2.2.2 ∧ x.2.2.2.2 < (x.1.length : Int) then
 if 0 ≤ x.2.2.2.1 ∧ x.2.2.2.1 < (x.1.length : Int) then
 bif (decide ((rd (Ty.zero tVersion) x.1 x.2.2.2.2).2.2.2 > (rd (Ty.zero tVersion) x.1 x.2.2.2.1).2.2.2)) then
 k (.inl (x.1, x.2.1, x.2.2.1, x.2.2.2.2, t0))
 else
 k (.inl (x.1, x.2.1, x.2.2.1, x.2.2.2.1, t0))
 else none
 else none
 else
 k (.inl (x.1, x.2.1, x.2.2.1, x.2.2.2.1, t0))
 else none
 else
 k (.inl (x.1, x.2.1, x.2.2.1, x.2.2.2.1, t0))
 else none
 else
 k (.inr (x.1, x.2.1, x.2.2.1, x.2.2.2.1, x.2.2.2.2))
instance n34n_bp0 (x : q7T) : ParC (vg4 x) := by unfold vg4; (try dsimp only); infer_instance
def vvt (a0 : (List vaa)) (a1 : ByteArray) (a2 : Int) (k : Int → Option Res) : Option Res :=
 vac vg4 Fuel (a0, a1, a2, (-1 : Int), 0) (fun z1 =>
 k z1.2.2.2.1)
def vn6 := shut vvt
theorem v0e : vn6 = vvt := vam _
instance n34n_p (a0 : (List vaa)) (a1 : ByteArray) (a2 : Int) : ParC (vn6 a0 a1 a2) := by rw [v0e]; unfold vvt; (try dsimp only); infer_instance
def vw2 (a0 : (List vaa)) (a1 : ByteArray) (a2 : Int) (k : (ByteArray × Bool) → Option Res) : Option Res :=
 vn6 a0 a1 a2 (fun y1 =>
 bif (decide (y1 < 0)) then
 k ((⟨#[]⟩ : ByteArray), false)
 else
 if 0 ≤ y1 ∧ y1 < (a0.length : Int) then
 bif (rd (Ty.zero tVersion) a0 y1).2.2.1 then
 k ((⟨#[]⟩ : ByteArray), false)
 else
 if 0 ≤ y1 ∧ y1 < (a0.length : Int) then
 k ((rd (Ty.zero tVersion) a0 y1).2.1, true)
 else none
 else none)
def vn4 := shut vw2
theorem vy1 : vn4 = vw2 := vam _
instance n23n_p (a0 : (List vaa)) (a1 : ByteArray) (a2 : Int) : ParC (vn4 a0 a1 a2) := by rw [vy1]; unfold vw2; (try dsimp only); infer_instance
def vg2 (x : q5T) (k : q5T ⊕ (q5T ⊕ q5T) → Option Res) : Option Res :=
 let xh := x.2.2.2.2.2.2.2.2
 let t0 := (rd (Ty.zero tWrite) xh.2.2.1 x.2.2.2.2.1)
 bif (decide (x.2.2.2.2.1 < (xh.2.2.1.length : Int))) then
 if 0 ≤ x.2.2.2.2.1 ∧ x.2.2.2.2.1 < (xh.2.2.1.length : Int) then
 bif (vao (t0.1) x.2.1) then
 if 0 ≤ x.2.2.2.2.1 ∧ x.2.2.2.2.1 < (xh.2.2.1.length : Int) then
 bif t0.2.2 then
 k (.inr (.inl (x.1, x.2.1, (⟨#[]⟩ : ByteArray), false, x.2.2.2.2.1, x.2.2.2.2.2.1, x.2.2.2.2.2.2.1, x.2.2.2.2.2.2.2.1, xh.1, xh.2.1, xh.2.2.1, xh.2.2.2.1, xh.2.2.2.2)))
 else
 if 0 ≤ x.2.2.2.2.1 ∧ x.2.2.2.2.1 < (xh.2.2.1.length : Int) then
 k (.inr (.inl (x.1, x.2.1, t0.2.1, true, x.2.2.2.2.1, x.2.2.2.2.2.1, x.2.2.2.2.2.2.1, x.2.2.2.2.2.2.2.1, xh.1, xh.2.1, xh.2.2.1, xh.2.2.2.1, xh.2.2.2.2)))
 else none
 else none
 else
 k (.inl (x.1, x.2.1, x.2.2.1, x.2.2.2.1, (IntKind.wrap .i64 (x.2.2.2.2.1 + 1)), x.2.2.2.2.2.1, x.2.2.2.2.2.2.1, x.2.2.2.2.2.2.2.1, xh.1, xh.2.1, xh.2.2.1, xh.2.2.2.1, xh.2.2.2.2))
 else none
 else
 k (.inr (.inr (x.1, x.2.1, x.2.2.1, x.2.2.2.1, x.2.2.2.2.1, x.2.2.2.2.2.1, x.2.2.2.2.2.2.1, x.2.2.2.2.2.2.2.1, xh.1, xh.2.1, xh.2.2.1, xh.2.2.2.1, xh.2.2.2.2)))
instance n19n_bp0 (x : q5T) : ParC (vg2 x) := by unfold vg2; (try dsimp only); infer_instance
def vwc (a0 : dTxn) (a1 : (List vaa)) (a2 : ByteArray) (k : (ByteArray × Bool) → Option Res) : Option Res :=
 vac vg2 Fuel (a1, a2, (⟨#[]⟩ : ByteArray), false, 0, a0.1, a0.2.1, a0.2.2.1, a0.2.2.2.1, a0.2.2.2.2.1, a0.2.2.2.2.2.1, a0.2.2.2.2.2.2.1, a0.2.2.2.2.2.2.2) (Sum.elim (fun z1 =>
 k (z1.2.2.1, z1.2.2.2.1)) (fun z2 =>
 vn4 z2.1 z2.2.1 z2.2.2.2.2.2.2.2.1 (fun y3 =>
 k (y3.1, y3.2))))
def vmi := shut vwc
theorem v0f : vmi = vwc := vam _
instance n19n_p (a0 : dTxn) (a1 : (List vaa)) (a2 : ByteArray) : ParC (vmi a0 a1 a2) := by rw [v0f]; unfold vwc; (try dsimp only); infer_instance
def vho (x : q13T) (k : q13T ⊕ q13T → Option Res) : Option Res :=
 let xh := x.2.2.2.2.2.2.2.2
 bif (decide (x.2.1 < (x.2.2.2.2.2.2.2.1.length : Int))) then
 if 0 ≤ x.2.1 ∧ x.2.1 < (x.2.2.2.2.2.2.2.1.length : Int) then
 if xh.2.2.2.2.length + [((rd (Ty.zero tWrite) x.2.2.2.2.2.2.2.1 x.2.1).1, ((⟨#[]⟩ : ByteArray), (false, (0 : Int))))].length ≤ VE.maxLen then
 k (.inl (x.1, (IntKind.wrap .i64 (x.2.1 + (1 : Int))), x.2.2.1, x.2.2.2.1, x.2.2.2.2.1, x.2.2.2.2.2.1, x.2.2.2.2.2.2.1, x.2.2.2.2.2.2.2.1, xh.1, xh.2.1, xh.2.2.1, xh.2.2.2.1, (xh.2.2.2.2 ++ [((rd (Ty.zero tWrite) x.2.2.2.2.2.2.2.1 x.2.1).1, ((⟨#[]⟩ : ByteArray), (false, (0 : Int))))])))
 else none
 else none
 else
 k (.inr (x.1, x.2.1, x.2.2.1, x.2.2.2.1, x.2.2.2.2.1, x.2.2.2.2.2.1, x.2.2.2.2.2.2.1, x.2.2.2.2.2.2.2.1, xh.1, xh.2.1, xh.2.2.1, xh.2.2.2.1, xh.2.2.2.2))
instance n20n_bp0 (x : q13T) : ParC (vho x) := by unfold vho; (try dsimp only); infer_instance
def vga (x : q12T) (k : q12T ⊕ q12T → Option Res) : Option Res :=
 let xh := x.2.2.2.2.2.2.2.2
 let t0 := (xh.2.2.2.getD x.2.1.toNat (Ty.zero .str))
 bif (decide (x.2.1 < (xh.2.2.2.length : Int))) then
 if 0 ≤ x.2.1 ∧ x.2.1 < (xh.2.2.2.length : Int) then
 vmi (x.2.2.1, (x.2.2.2.1, (x.2.2.2.2.1, (x.2.2.2.2.2.1, (x.2.2.2.2.2.2.1, (x.2.2.2.2.2.2.2.1, (xh.1, xh.2.1))))))) x.1 t0 (fun y4 =>
 bif y4.2 then
 if 0 ≤ x.2.1 ∧ x.2.1 < (xh.2.2.2.length : Int) then
 if xh.2.2.1.length + [(t0, y4.1)].length ≤ VE.maxLen then
 k (.inl (x.1, (IntKind.wrap .i64 (x.2.1 + (1 : Int))), x.2.2.1, x.2.2.2.1, x.2.2.2.2.1, x.2.2.2.2.2.1, x.2.2.2.2.2.2.1, x.2.2.2.2.2.2.2.1, xh.1, xh.2.1, (xh.2.2.1 ++ [(t0, y4.1)]), xh.2.2.2))
 else none
 else none
 else
 k (.inl (x.1, (IntKind.wrap .i64 (x.2.1 + 1)), x.2.2.1, x.2.2.2.1, x.2.2.2.2.1, x.2.2.2.2.2.1, x.2.2.2.2.2.2.1, x.2.2.2.2.2.2.2.1, xh.1, xh.2.1, xh.2.2.1, xh.2.2.2)))
 else none
 else
 k (.inr (x.1, x.2.1, x.2.2.1, x.2.2.2.1, x.2.2.2.2.1, x.2.2.2.2.2.1, x.2.2.2.2.2.2.1, x.2.2.2.2.2.2.2.1, xh.1, xh.2.1, xh.2.2.1, xh.2.2.2))
instance n20n_bp2 (x : q12T) : ParC (vga x) := by unfold vga; (try dsimp only); infer_instance
def vvq (a0 : dTxn) (a1 : (List vaa)) (a2 : vai) (k : (List vai) → Option Res) : Option Res :=
 if ([] : List vaa).length + a1.length ≤ VE.maxLen then
 vac vho Fuel (a1, 0, a0.1, a0.2.1, a0.2.2.1, a0.2.2.2.1, a0.2.2.2.2.1, a0.2.2.2.2.2.1, a0.2.2.2.2.2.2.1, a0.2.2.2.2.2.2.2, a2.1, a2.2, (([] : List vaa) ++ a1)) (fun z1 =>
 let z1h := z1.2.2.2.2.2.2.2.2
 voh z1h.2.2.2.2 (z1h.2.2.1, z1h.2.2.2.1) (fun y2 =>
 vac vga Fuel (z1.1, 0, z1.2.2.1, z1.2.2.2.1, z1.2.2.2.2.1, z1.2.2.2.2.2.1, z1.2.2.2.2.2.2.1, z1.2.2.2.2.2.2.2.1, z1h.1, z1h.2.1, ([] : List vai), y2) (fun z3 =>
 k z3.2.2.2.2.2.2.2.2.2.2.1)))
 else none
def vmz := shut vvq
theorem v02 : vmz = vvq := vam _
instance n20n_p (a0 : dTxn) (a1 : (List vaa)) (a2 : vai) : ParC (vmz a0 a1 a2) := by rw [v02]; unfold vvq; (try dsimp only); infer_instance
def vf5 (x : q19T) (k : q19T ⊕ (q19T ⊕ q19T) → Option Res) : Option Res :=
 let xh := x.2.2.2.2.2.2.2.2
 let t0 := (false, x.2.1, x.2.2.1, x.2.2.2.1, x.2.2.2.2.1, x.2.2.2.2.2.1, x.2.2.2.2.2.2.1, x.2.2.2.2.2.2.2.1, xh.1, xh.2.1, xh.2.2.1, xh.2.2.2)
 let t1 := (xh.2.2.2.getD x.2.1.toNat (Ty.zero tWrite))
 bif (decide (x.2.1 < (xh.2.2.2.length : Int))) then
 if 0 ≤ x.2.1 ∧ x.2.1 < (xh.2.2.2.length : Int) then
 vji (x.2.2.1, (x.2.2.2.1, (x.2.2.2.2.1, (x.2.2.2.2.2.1, (xh.2.2.1, (xh.2.2.2, (x.2.2.2.2.2.2.1, x.2.2.2.2.2.2.2.1))))))) xh.1 (t1.1) (fun y17 =>
 if 0 ≤ x.2.1 ∧ x.2.1 < (xh.2.2.2.length : Int) then
 bif (y17.2 == t1.2.2) then
 k (.inr (.inl t0))
 else
 if 0 ≤ x.2.1 ∧ x.2.1 < (xh.2.2.2.length : Int) then
 bif (!(vao y17.1 (t1.2.1))) then
 k (.inr (.inl t0))
 else
 k (.inl (x.1, (IntKind.wrap .i64 (x.2.1 + 1)), x.2.2.1, x.2.2.2.1, x.2.2.2.2.1, x.2.2.2.2.2.1, x.2.2.2.2.2.2.1, x.2.2.2.2.2.2.2.1, xh.1, xh.2.1, xh.2.2.1, xh.2.2.2))
 else none
 else none)
 else none
 else
 k (.inr (.inr (x.1, x.2.1, x.2.2.1, x.2.2.2.1, x.2.2.2.2.1, x.2.2.2.2.2.1, x.2.2.2.2.2.2.1, x.2.2.2.2.2.2.2.1, xh.1, xh.2.1, xh.2.2.1, xh.2.2.2)))
instance n09n_bp0 (x : q19T) : ParC (vf5 x) := by unfold vf5; (try dsimp only); infer_instance
def vfq (x : q19T) (k : q19T ⊕ (q19T ⊕ q19T) → Option Res) : Option Res :=
 let xh := x.2.2.2.2.2.2.2.2
 let t0 := (false, x.2.1, x.2.2.1, x.2.2.2.1, x.2.2.2.2.1, x.2.2.2.2.2.1, x.2.2.2.2.2.2.1, x.2.2.2.2.2.2.2.1, xh.1, xh.2.1, xh.2.2.1, xh.2.2.2)
 let t1 := (x.1, (IntKind.wrap .i64 (x.2.1 + (1 : Int))), x.2.2.1, x.2.2.2.1, x.2.2.2.2.1, x.2.2.2.2.2.1, x.2.2.2.2.2.2.1, x.2.2.2.2.2.2.2.1, xh.1, xh.2.1, xh.2.2.1, xh.2.2.2)
 let t2 := (xh.2.1.getD x.2.1.toNat (Ty.zero tRange))
 let t3 := (IntKind.wrap .i64 (x.2.1 - (1 : Int)))
 bif (decide (x.2.1 < (xh.2.1.length : Int))) then
 if 0 ≤ x.2.1 ∧ x.2.1 < (xh.2.1.length : Int) then
 vji (x.2.2.1, (x.2.2.2.1, (x.2.2.2.2.1, (x.2.2.2.2.2.1, (xh.2.2.1, (xh.2.2.2, (x.2.2.2.2.2.2.1, x.2.2.2.2.2.2.2.1))))))) xh.1 (t2.1) (fun y18 =>
 bif (!y18.2) then
 k (.inr (.inl t0))
 else
 if 0 ≤ x.2.1 ∧ x.2.1 < (xh.2.1.length : Int) then
 bif (!(vao y18.1 (t2.2))) then
 k (.inr (.inl t0))
 else
 bif (decide (x.2.1 > 0)) then
 if 0 ≤ t3 ∧ t3 < (xh.2.1.length : Int) then
 if 0 ≤ x.2.1 ∧ x.2.1 < (xh.2.1.length : Int) then
 bif (!(vab ((xh.2.1.getD t3.toNat (Ty.zero tRange)).1) (t2.1))) then
 k (.inr (.inl t0))
 else
 k (.inl t1)
 else none
 else none
 else
 k (.inl t1)
 else none)
 else none
 else
 k (.inr (.inr (x.1, x.2.1, x.2.2.1, x.2.2.2.1, x.2.2.2.2.1, x.2.2.2.2.2.1, x.2.2.2.2.2.2.1, x.2.2.2.2.2.2.2.1, xh.1, xh.2.1, xh.2.2.1, xh.2.2.2)))
instance n09n_bp2 (x : q19T) : ParC (vfq x) := by unfold vfq; (try dsimp only); infer_instance
def vu4 (a0 : (List Int)) (k : Bool → Option Res) : Option Res :=
 vo3 a0 (fun y1 =>
 bif y1 then
 k true
 else
 vof a0 (fun y2 =>
 vnp a0 (fun y3 =>
 vgg  (fun y4 =>
 vja (y2.1, (y2.2.1, (y2.2.2.1, (y2.2.2.2.1, (y2.2.2.2.2.2.2.1, (y2.2.2.2.2.2.2.2, (y2.2.2.2.2.1, y2.2.2.2.2.2.1))))))) y3 y4 (fun y5 =>
 vac vf5 Fuel (false, 0, y2.1, y2.2.1, y2.2.2.1, y2.2.2.2.1, y2.2.2.2.2.1, y2.2.2.2.2.2.1, y3, y5, y2.2.2.2.2.2.2.1, y2.2.2.2.2.2.2.2) (Sum.elim (fun z6 =>
 k z6.1) (fun z7 =>
 let z7h := z7.2.2.2.2.2.2.2.2
 vac vfq Fuel (z7.1, 0, z7.2.2.1, z7.2.2.2.1, z7.2.2.2.2.1, z7.2.2.2.2.2.1, z7.2.2.2.2.2.2.1, z7.2.2.2.2.2.2.2.1, z7h.1, z7h.2.1, z7h.2.2.1, z7h.2.2.2) (Sum.elim (fun z8 =>
 k z8.1) (fun z9 =>
 let z9h := z9.2.2.2.2.2.2.2.2
 vgg  (fun y10 =>
 vja (z9.2.2.1, (z9.2.2.2.1, (z9.2.2.2.2.1, (z9.2.2.2.2.2.1, (z9h.2.2.1, (([] : List vah), (z9.2.2.2.2.2.2.1, z9.2.2.2.2.2.2.2.1))))))) z9h.1 y10 (fun y11 =>
 vgg  (fun y12 =>
 vol z9h.1 y12 z9.2.2.2.2.1 (fun y13 =>
 vl9 y11 y13 (fun y14 =>
 bif y14 then
 vgg  (fun y15 =>
 vmz (z9.2.2.1, (z9.2.2.2.1, (z9.2.2.2.2.1, (z9.2.2.2.2.2.1, (z9h.2.2.1, (z9h.2.2.2, (z9.2.2.2.2.2.2.1, z9.2.2.2.2.2.2.2.1))))))) z9h.1 y15 (fun y16 =>
 k ((z9h.2.1.length : Int) == (y16.length : Int))))
 else
 k false))))))))))))))
def vsl := shut vu4
theorem v0m : vsl = vu4 := vam _
instance n09n_p (a0 : (List Int)) : ParC (vsl a0) := by rw [v0m]; unfold vu4; (try dsimp only); exact ⟨((n11n_p _).p.bind fun y1 => (vim (vbz _) ((n16n_p _).p.bind fun y2 => ((n17n_p _).p.bind fun y3 => (n10n_p.p.bind fun y4 => ((n02n_p _ _ _).p.bind fun y5 => ((vgd (fun x => (n09n_bp0 x).p) _ _).bind2 (fun z6 => (vbz _)) (fun z7 => ((vgd (fun x => (n09n_bp2 x).p) _ _).bind2 (fun z8 => (vbz _)) (fun z9 => (n10n_p.p.bind fun y10 => ((n02n_p _ _ _).p.bind fun y11 => (n10n_p.p.bind fun y12 => ((n03n_p _ _ _).p.bind fun y13 => ((n12n_p _ _).p.bind fun y14 => (vim (n10n_p.p.bind fun y15 => ((n20n_p _ _ _).p.bind fun y16 => (vbz _))) (vbz _)))))))))))))))))⟩
def v5d (args : List AV) (st : St) (k : K1) : Option Res :=
 var [.lst (.int .u8)] [] args st (fun p q => vo3 p.1 (fun (y : Bool) => k (.bool y) []))
 (none)
def v4n (args : List AV) (st : St) (k : K1) : Option Res :=
 var [.lst (.int .u8)] [] args st (fun p q => vnx p.1 (fun (y : ((List Int) × Int × Int)) => k (.bp 0 0) [.box [.lst (.int .u8) y.1, .i y.2.1, .i y.2.2]]))
 (none)
def v4d (args : List AV) (st : St) (k : K1) : Option Res :=
 var [.bp 0 0] [.box [.lst (.int .u8), .i, .i]] args st (fun p q => vjx q.1.1 q.1.2.1 q.1.2.2.1 (fun (y : (Int × (List Int) × Int × Int)) => k (.i y.1) [.box [.lst (.int .u8) y.2.1, .i y.2.2.1, .i y.2.2.2]]))
 (none)
def v43 (args : List AV) (st : St) (k : K1) : Option Res :=
 var [.bp 0 0, .i] [.box [.lst (.int .u8), .i, .i]] args st (fun p q => vfl p.2.1 q.1.1 q.1.2.1 q.1.2.2.1 (fun (y : (Int × (List Int) × Int × Int)) => k (.i y.1) [.box [.lst (.int .u8) y.2.1, .i y.2.2.1, .i y.2.2.2]]))
 (none)
def v4a (args : List AV) (st : St) (k : K1) : Option Res :=
 var [.bp 0 0, .lst .str] [.box [.lst (.int .u8), .i, .i]] args st (fun p q => voi p.2.1 q.1.1 q.1.2.1 q.1.2.2.1 (fun (y : q20T) => k (.str y.1) [.box [.lst (.int .u8) y.2.1, .i y.2.2.1, .i y.2.2.2]]))
 (none)
def v4v (args : List AV) (st : St) (k : K1) : Option Res :=
 var [.bp 0 0] [.box [.lst (.int .u8), .i, .i]] args st (fun p q => vi7 q.1.1 q.1.2.1 q.1.2.2.1 (fun (y : q20T) => k (.str y.1) [.box [.lst (.int .u8) y.2.1, .i y.2.2.1, .i y.2.2.2]]))
 (none)
def v5b (args : List AV) (st : St) (k : K1) : Option Res :=
 var [.bp 0 0, .i] [.box [.lst (.int .u8), .i, .i]] args st (fun p q => vk4 p.2.1 q.1.1 q.1.2.1 q.1.2.2.1 (fun (y : (Bool × (List Int) × Int × Int)) => k (.bool y.1) [.box [.lst (.int .u8) y.2.1, .i y.2.2.1, .i y.2.2.2]]))
 (none)
def v4u (args : List AV) (st : St) (k : K1) : Option Res :=
 var [.bp 0 0] [.box [.lst (.int .u8), .i, .i]] args st (fun p q => vq1 q.1.1 q.1.2.1 q.1.2.2.1 (fun (y : q21T) => k (.agg [.str y.1, .str y.2.1]) [.box [.lst (.int .u8) y.2.2.1, .i y.2.2.2.1, .i y.2.2.2.2]]))
 (none)
def v5c (args : List AV) (st : St) (k : K1) : Option Res :=
 var [.bp 0 0] [.box [.lst (.int .u8), .i, .i]] args st (fun p q => vrx q.1.1 q.1.2.1 q.1.2.2.1 (fun (y : q0T) => k (.own 1) [.box [.lst (.int .u8) y.1, .i y.2.1, .i y.2.2.1], .arr tRange y.2.2.2]))
 (none)
def v41 (args : List AV) (st : St) (k : K1) : Option Res :=
 var [.bp 0 0] [.box [.lst (.int .u8), .i, .i]] args st (fun p q => vrq q.1.1 q.1.2.1 q.1.2.2.1 (fun (y : q22T) => k (.agg [.str y.1, .str y.2.1, .bool y.2.2.1]) [.box [.lst (.int .u8) y.2.2.2.1, .i y.2.2.2.2.1, .i y.2.2.2.2.2]]))
 (none)
def v5i (args : List AV) (st : St) (k : K1) : Option Res :=
 var [.lst tWrite, .agg [.str, .str, .bool]] [] args st (fun p q => vmo p.1 (p.2.1.1, (p.2.1.2.1, p.2.1.2.2.1)) (fun (y : (List vah)) => k (.own 0) [.arr tWrite y]))
 (none)
def v4x (args : List AV) (st : St) (k : K1) : Option Res :=
 var [.bp 0 0] [.box [.lst (.int .u8), .i, .i]] args st (fun p q => vn0 q.1.1 q.1.2.1 q.1.2.2.1 (fun (y : q2T) => k (.own 1) [.box [.lst (.int .u8) y.1, .i y.2.1, .i y.2.2.1], .arr tWrite y.2.2.2]))
 (none)
def v4j (args : List AV) (st : St) (k : K1) : Option Res :=
 var [.bp 0 0] [.box [.lst (.int .u8), .i, .i]] args st (fun p q => vrr q.1.1 q.1.2.1 q.1.2.2.1 (fun (y : q27T) => k (.agg [.i y.1, .i y.2.1, .i y.2.2.1, .i y.2.2.2.1, .own 1, .own 2, .bool y.2.2.2.2.1, .str y.2.2.2.2.2.1]) [.box [.lst (.int .u8) y.2.2.2.2.2.2.1, .i y.2.2.2.2.2.2.2.1, .i y.2.2.2.2.2.2.2.2.1], .arr tRange y.2.2.2.2.2.2.2.2.2.1, .arr tWrite y.2.2.2.2.2.2.2.2.2.2]))
 (none)
def v5h (args : List AV) (st : St) (k : K1) : Option Res :=
 var [.lst (.int .u8)] [] args st (fun p q => vof p.1 (fun (y : q28T) => k (.agg [.i y.1, .i y.2.1, .i y.2.2.1, .i y.2.2.2.1, .own 0, .own 1, .bool y.2.2.2.2.1, .str y.2.2.2.2.2.1]) [.arr tRange y.2.2.2.2.2.2.1, .arr tWrite y.2.2.2.2.2.2.2]))
 (none)
def v4o (args : List AV) (st : St) (k : K1) : Option Res :=
 var [.lst tVersion, .lst tWrite, .i] [] args st (fun p q => voa p.1 p.2.1 p.2.2.1 (fun (y : (List vaa)) => k (.own 0) [.arr tVersion y]))
 (none)
def v48 (args : List AV) (st : St) (k : K1) : Option Res :=
 var [.bp 0 0] [.box [.lst (.int .u8), .i, .i]] args st (fun p q => vrj q.1.1 q.1.2.1 q.1.2.2.1 (fun (y : q1T) => k (.own 1) [.box [.lst (.int .u8) y.1, .i y.2.1, .i y.2.2.1], .arr tVersion y.2.2.2]))
 (none)
def v4y (args : List AV) (st : St) (k : K1) : Option Res :=
 var [.lst (.int .u8)] [] args st (fun p q => vnp p.1 (fun (y : (List vaa)) => k (.own 0) [.arr tVersion y]))
 (none)
def v4c (args : List AV) (st : St) (k : K1) : Option Res :=
 var [] [] args st (fun p q => vgg  (fun (y : (ByteArray × ByteArray)) => k (.agg [.str y.1, .str y.2]) []))
 (none)
def vce (args : List AV) (st : St) (k : K1) : Option Res :=
 var [.own 0] [.arr .str] args st (fun p q => vjg q.1 (fun (y : (List ByteArray)) => k (.tup []) [.arr .str y]))
 (none)
def vcy (args : List AV) (st : St) (k : K1) : Option Res :=
 var [.own 0] [.arr .str] args st (fun p q => vje q.1 (Sum.elim (fun (y : (List ByteArray)) => k (.own 0) [.arr .str y]) (fun (y : (List ByteArray)) => k (.own 1) [.gone, .arr .str y])))
 (none)
def v4w (args : List AV) (st : St) (k : K1) : Option Res :=
 var [.lst tVersion] [] args st (fun p q => vk3 p.1 (fun (y : (List ByteArray)) => k (.own 0) [.arr .str y]))
 (none)
def v4l (args : List AV) (st : St) (k : K1) : Option Res :=
 var [.agg [.str, .str, .bool], .bp 0 0] [.box [.str]] args st (fun p q => vnk (p.1.1, (p.1.2.1, p.1.2.2.1)) q.1.1 (fun (y : (Bool × ByteArray)) => k (.bool y.1) [.box [.str y.2]]))
 (none)
def vcq (args : List AV) (st : St) (k : K1) : Option Res :=
 var [.lst tWrite, .fn 163 [.bp 0 0]] [.box [.str]] args st (fun p q => vrv p.1 q.1.1 (fun (y : (Int × ByteArray)) => k (.i y.1) [.box [.str y.2]]))
 (none)
def v49 (args : List AV) (st : St) (k : K1) : Option Res :=
 var [.agg [.i, .i, .i, .i, .lst tRange, .lst tWrite, .bool, .str], .str] [] args st (fun p q => vwr (p.1.1, (p.1.2.1, (p.1.2.2.1, (p.1.2.2.2.1, (p.1.2.2.2.2.1, (p.1.2.2.2.2.2.1, (p.1.2.2.2.2.2.2.1, p.1.2.2.2.2.2.2.2.1))))))) p.2.1 (fun (y : Int) => k (.i y) []))
 (none)
def v4t (args : List AV) (st : St) (k : K1) : Option Res :=
 var [.lst tVersion, .str, .i] [] args st (fun p q => vns p.1 p.2.1 p.2.2.1 (fun (y : Int) => k (.i y) []))
 (none)
def v4h (args : List AV) (st : St) (k : K1) : Option Res :=
 var [.lst tVersion, .str, .i] [] args st (fun p q => voe p.1 p.2.1 p.2.2.1 (fun (y : (ByteArray × Bool)) => k (.tup [.str y.1, .bool y.2]) []))
 (none)
def v5e (args : List AV) (st : St) (k : K1) : Option Res :=
 var [.agg [.i, .i, .i, .i, .lst tRange, .lst tWrite, .bool, .str], .lst tVersion, .str] [] args st (fun p q => vji (p.1.1, (p.1.2.1, (p.1.2.2.1, (p.1.2.2.2.1, (p.1.2.2.2.2.1, (p.1.2.2.2.2.2.1, (p.1.2.2.2.2.2.2.1, p.1.2.2.2.2.2.2.2.1))))))) p.2.1 p.2.2.1 (fun (y : (ByteArray × Bool)) => k (.tup [.str y.1, .bool y.2]) []))
 (none)
def v4b (args : List AV) (st : St) (k : K1) : Option Res :=
 var [.agg [.str, .str], .str] [] args st (fun p q => vks (p.1.1, p.1.2.1) p.2.1 (fun (y : Bool) => k (.bool y) []))
 (none)
def v45 (args : List AV) (st : St) (k : K1) : Option Res :=
 var [.agg [.i, .i, .i, .i, .lst tRange, .lst tWrite, .bool, .str], .lst tVersion, .agg [.str, .str]] [] args st (fun p q => vja (p.1.1, (p.1.2.1, (p.1.2.2.1, (p.1.2.2.2.1, (p.1.2.2.2.2.1, (p.1.2.2.2.2.2.1, (p.1.2.2.2.2.2.2.1, p.1.2.2.2.2.2.2.2.1))))))) p.2.1 (p.2.2.1.1, p.2.2.1.2.1) (fun (y : (List vai)) => k (.own 0) [.arr tRange y]))
 (none)
def v4i (args : List AV) (st : St) (k : K1) : Option Res :=
 var [.lst tVersion, .agg [.str, .str], .i] [] args st (fun p q => vol p.1 (p.2.1.1, p.2.1.2.1) p.2.2.1 (fun (y : (List vai)) => k (.own 0) [.arr tRange y]))
 (none)
def v4e (args : List AV) (st : St) (k : K1) : Option Res :=
 var [.lst tRange, .lst tRange] [] args st (fun p q => vl9 p.1 p.2.1 (fun (y : Bool) => k (.bool y) []))
 (none)
def v4k (args : List AV) (st : St) (k : K1) : Option Res :=
 var [.agg [.str, .str], .str] [] args st (fun p q => vo5 (p.1.1, p.1.2.1) p.2.1 (fun (y : Bool) => k (.bool y) []))
 (none)
def v4m (args : List AV) (st : St) (k : K1) : Option Res :=
 var [.lst tVersion, .agg [.str, .str]] [] args st (fun p q => voh p.1 (p.2.1.1, p.2.1.2.1) (fun (y : (List ByteArray)) => k (.own 0) [.arr .str y]))
 (none)
def v4q (args : List AV) (st : St) (k : K1) : Option Res :=
 var [.lst tVersion, .str, .i] [] args st (fun p q => vn6 p.1 p.2.1 p.2.2.1 (fun (y : Int) => k (.i y) []))
 (none)
def v4r (args : List AV) (st : St) (k : K1) : Option Res :=
 var [.lst tVersion, .str, .i] [] args st (fun p q => vn4 p.1 p.2.1 p.2.2.1 (fun (y : (ByteArray × Bool)) => k (.tup [.str y.1, .bool y.2]) []))
 (none)
def v5f (args : List AV) (st : St) (k : K1) : Option Res :=
 var [.agg [.i, .i, .i, .i, .lst tRange, .lst tWrite, .bool, .str], .lst tVersion, .str] [] args st (fun p q => vmi (p.1.1, (p.1.2.1, (p.1.2.2.1, (p.1.2.2.2.1, (p.1.2.2.2.2.1, (p.1.2.2.2.2.2.1, (p.1.2.2.2.2.2.2.1, p.1.2.2.2.2.2.2.2.1))))))) p.2.1 p.2.2.1 (fun (y : (ByteArray × Bool)) => k (.tup [.str y.1, .bool y.2]) []))
 (none)
def v4p (args : List AV) (st : St) (k : K1) : Option Res :=
 var [.agg [.i, .i, .i, .i, .lst tRange, .lst tWrite, .bool, .str], .lst tVersion, .agg [.str, .str]] [] args st (fun p q => vmz (p.1.1, (p.1.2.1, (p.1.2.2.1, (p.1.2.2.2.1, (p.1.2.2.2.2.1, (p.1.2.2.2.2.2.1, (p.1.2.2.2.2.2.2.1, p.1.2.2.2.2.2.2.2.1))))))) p.2.1 (p.2.2.1.1, p.2.2.1.2.1) (fun (y : (List vai)) => k (.own 0) [.arr tRange y]))
 (none)
def vy2 (args : List AV) (st : St) (k : K1) : Option Res :=
 var [.lst (.int .u8)] [] args st (fun p q => vsl p.1 (fun (y : Bool) => k (.bool y) []))
 (none)
end
end Go.VE
