/- Native programs of the functions, written by gen.py. -/
import Derived.Test.YteolgjmeigifbaaT0
namespace Go.VE
noncomputable section
set_option linter.unusedVariables false
set_option linter.unusedSimpArgs false
set_option maxRecDepth 100000
abbrev q0T : Type := ((List (List dTxn)) × Int × (List (List dTxn)) × Int × Int)
abbrev q1T : Type := ((List (List dTxn)) × Int × Int × (List dTxn))
abbrev q2T : Type := ((List van) × (List van) × Bool × Int)
abbrev q3T : Type := ((List van) × Int × (List van))
abbrev q4T : Type := ((List van) × Int × Int × Int)
abbrev q5T : Type := ((List dTxn) × (List dTxn) × Bool × Int)
abbrev q6T : Type := ((List dTxn) × Int × (List dTxn))
abbrev q7T : Type := ((List dTxn) × Int × Bool × (List dTxn) × Int × Int)
abbrev q8T : Type := ((List dTxn) × Int × Int × (List dTxn))
abbrev q9T : Type := ((List dTxn) × Int × Int × Int × Int × Int × Int × Int × (List van) × (List vaj) × Bool × ByteArray)
abbrev q10T : Type := ((List dTxn) × Int × Int × Int)
abbrev q11T : Type := ((List vac) × (List vac) × Bool × Int)
abbrev q12T : Type := ((List vac) × Bool × (List vac) × Int × Int)
abbrev q13T : Type := ((List vac) × Bool × Int × ByteArray × ByteArray × Bool × Int)
abbrev q14T : Type := ((List vac) × Int × (List vac))
abbrev q15T : Type := ((List vac) × Int × Int × Int)
abbrev q16T : Type := ((List vaj) × (List vaj) × Bool × Int)
abbrev q17T : Type := ((List vaj) × Bool × (List vaj) × Int × Int)
abbrev q18T : Type := ((List vaj) × Int × (List vaj))
abbrev q19T : Type := ((List vaj) × Int × Int × Int)
abbrev q20T : Type := (Bool × (List van) × Int × Int × Int × Int × Int × Int × (List van) × (List vaj) × Bool × ByteArray)
abbrev q21T : Type := (Bool × (List dTxn) × Int × Int × (List vac) × (List dTxn) × (List dTxn) × Int × Int × (List dTxn))
abbrev q22T : Type := (Bool × (List dTxn) × Int × Int × (List vac) × (List dTxn) × (List dTxn) × Int × Int)
abbrev q23T : Type := (Bool × (List vac) × (List dTxn) × (List dTxn) × (List dTxn))
abbrev q24T : Type := (Bool × (List vac) × (List dTxn) × (List dTxn) × Int × Int × (List dTxn))
abbrev q25T : Type := (Bool × (List vac) × (List dTxn) × (List dTxn) × Int × Int)
abbrev q26T : Type := (Bool × (List vac) × Int × Int × (List vac) × (List dTxn) × (List dTxn) × Int × Int)
abbrev q27T : Type := (Bool × Int × (List vac) × (List dTxn) × (List dTxn) × Int × Int × (List Int))
abbrev q28T : Type := (Bool × Int × (List vac) × (List dTxn) × (List dTxn) × Int × Int × (List dTxn) × Int × Int × Int × Int × (List van) × (List vaj) × Bool × ByteArray)
abbrev q29T : Type := (Bool × Int × (List vac) × (List dTxn) × (List dTxn) × Int × Int × (List dTxn))
abbrev q30T : Type := (Bool × Int × (List vac) × (List dTxn) × (List dTxn) × Int × Int)
abbrev q31T : Type := (Bool × Int × Int × (List vac) × (List dTxn) × (List dTxn) × (List dTxn))
abbrev q32T : Type := (Bool × Int × Int × (List vac) × (List dTxn) × (List dTxn) × Int × Int × (List Int))
abbrev q33T : Type := (Bool × Int × Int × (List vac) × (List dTxn) × (List dTxn) × Int × Int × (List dTxn) × Int × Int × Int × Int × (List van) × (List vaj) × Bool × ByteArray)
abbrev q34T : Type := (Bool × Int × Int × (List vac) × (List dTxn) × (List dTxn) × Int × Int × (List dTxn) × Int × Int × Int × Int × (List vac) × (List dTxn) × (List dTxn) × (List dTxn) × (List vac) × (List dTxn) × (List dTxn) × (List dTxn))
abbrev q35T : Type := (Bool × Int × Int × Int × (List vac) × (List dTxn) × (List dTxn) × (List dTxn))
abbrev q36T : Type := (Bool × Int × Int × Int × Int × (List van) × (List vaj) × Bool × ByteArray)
abbrev q37T : Type := (Bool × Int × Int × Int × Int × (List vac) × (List dTxn) × (List dTxn) × Int × Int × (List dTxn) × Int × Int × Int × Int × Int × Int × (List vac) × (List dTxn) × (List dTxn) × (List dTxn) × (List vac) × (List dTxn) × (List dTxn) × (List dTxn) × (List vac) × (List dTxn) × (List dTxn) × (List dTxn))
abbrev q38T : Type := (Bool × Int × Int × Int × Int × Int × (List van) × (List vaj) × Bool × ByteArray)
abbrev q39T : Type := (ByteArray × ByteArray × Bool × Int)
abbrev q40T : Type := (Int × (List vac) × (List dTxn) × (List dTxn) × (List dTxn))
abbrev q41T : Type := (Int × (List vac) × (List dTxn) × (List dTxn))
abbrev q42T : Type := (Int × Int × (List vac) × (List dTxn) × (List dTxn) × (List dTxn))
abbrev q43T : Type := (Int × Int × (List vac) × (List dTxn) × (List dTxn) × Int × Int × (List dTxn) × Int × Int × Int × Int × (List vac) × (List dTxn) × (List dTxn) × (List dTxn) × (List vac) × (List dTxn) × (List dTxn) × (List dTxn))
abbrev q44T : Type := (Int × Int × (List vac) × (List dTxn) × (List dTxn) × Int × Int × (List dTxn) × Int × Int × Int × Int × (List vac) × (List dTxn) × (List dTxn) × (List dTxn))
abbrev q45T : Type := (Int × Int × (List vac) × (List dTxn) × (List dTxn))
abbrev q46T : Type := (Int × Int × Int × Int × (List vac) × (List dTxn) × (List dTxn) × (List dTxn))
abbrev q47T : Type := (Int × Int × Int × Int × Bool × ByteArray × (List van) × (List vaj))
abbrev q48T : Type := (Int × Int × Int × Int × Int × (List van) × (List vaj) × Bool × ByteArray)
def wbm (a0 : vac) (a1 : Int) (k : Int → Option Res) : Option Res :=
 bif (decide ((IntKind.wrap .i64 (a1 - (a0.1.size : Int))) < (0 : Int))) then
 k (-1 : Int)
 else
 bif (decide ((IntKind.wrap .i64 ((IntKind.wrap .i64 (a1 - (a0.1.size : Int))) - (a0.2.1.size : Int))) < (0 : Int))) then
 k (-1 : Int)
 else
 k (IntKind.wrap .i64 ((IntKind.wrap .i64 (a1 - (a0.1.size : Int))) - (a0.2.1.size : Int)))
def vw0 := shut wbm
theorem wgi : vw0 = wbm := vap _
theorem wsm (a0 : vac) (a1 : Int) : Par (vw0 a0 a1) := by
  rw [wgi]
  unfold wbm
  exact (vab (vaa _) (vab (vaa _) (vaa _)))
def vkd (x : q15T) (k : q15T ⊕ (q15T ⊕ q15T) → Option Res) : Option Res :=
 bif (decide (x.2.2.2 < (x.1.length : Int))) then
 if 0 ≤ x.2.2.2 ∧ x.2.2.2 < (x.1.length : Int) then
 vw0 (rd (Ty.zero tVersion) x.1 x.2.2.2) x.2.1 (fun y3 =>
 bif (decide (y3 < (0 : Int))) then
 k (.inr (.inl (x.1, y3, (-1 : Int), x.2.2.2)))
 else
 k (.inl (x.1, y3, x.2.2.1, (IntKind.wrap .i64 (x.2.2.2 + (1 : Int))))))
 else none
 else
 k (.inr (.inr (x.1, x.2.1, x.2.2.1, x.2.2.2)))
theorem wcv (x : q15T) : Par (vkd x) := by
  unfold vkd
  exact (vab (vak ((wsm _ _).bind fun y3 => (vab (vaa _) (vaa _))) vae) (vaa _))
def wb9 (a0 : (List vac)) (a1 : Int) (k : Int → Option Res) : Option Res :=
 bif (decide ((IntKind.wrap .i64 (a1 - (a0.length : Int))) < (0 : Int))) then
 k (-1 : Int)
 else
 vah vkd Fuel (a0, (IntKind.wrap .i64 (a1 - (a0.length : Int))), (0 : Int), (0 : Int)) (Sum.elim (fun z1 =>
 k z1.2.2.1) (fun z2 =>
 k z2.2.1))
def vzm := shut wb9
theorem wg9 : vzm = wb9 := vap _
theorem wtd (a0 : (List vac)) (a1 : Int) : Par (vzm a0 a1) := by
  rw [wg9]
  unfold wb9
  exact (vab (vaa _) ((vau wcv _ _).bind2 (fun z1 => (vaa _)) (fun z2 => (vaa _))))
def wc4 (a0 : van) (a1 : Int) (k : Int → Option Res) : Option Res :=
 bif (decide ((IntKind.wrap .i64 (a1 - (a0.1.size : Int))) < (0 : Int))) then
 k (-1 : Int)
 else
 bif (decide ((IntKind.wrap .i64 ((IntKind.wrap .i64 (a1 - (a0.1.size : Int))) - (a0.2.size : Int))) < (0 : Int))) then
 k (-1 : Int)
 else
 k (IntKind.wrap .i64 ((IntKind.wrap .i64 (a1 - (a0.1.size : Int))) - (a0.2.size : Int)))
def vw8 := shut wc4
theorem wmg : vw8 = wc4 := vap _
theorem wtf (a0 : van) (a1 : Int) : Par (vw8 a0 a1) := by
  rw [wmg]
  unfold wc4
  exact (vab (vaa _) (vab (vaa _) (vaa _)))
def vjv (x : q4T) (k : q4T ⊕ (q4T ⊕ q4T) → Option Res) : Option Res :=
 bif (decide (x.2.2.2 < (x.1.length : Int))) then
 if 0 ≤ x.2.2.2 ∧ x.2.2.2 < (x.1.length : Int) then
 vw8 (rd (Ty.zero tRange) x.1 x.2.2.2) x.2.1 (fun y3 =>
 bif (decide (y3 < (0 : Int))) then
 k (.inr (.inl (x.1, y3, (-1 : Int), x.2.2.2)))
 else
 k (.inl (x.1, y3, x.2.2.1, (IntKind.wrap .i64 (x.2.2.2 + (1 : Int))))))
 else none
 else
 k (.inr (.inr (x.1, x.2.1, x.2.2.1, x.2.2.2)))
theorem wb7 (x : q4T) : Par (vjv x) := by
  unfold vjv
  exact (vab (vak ((wtf _ _).bind fun y3 => (vab (vaa _) (vaa _))) vae) (vaa _))
def wca (a0 : (List van)) (a1 : Int) (k : Int → Option Res) : Option Res :=
 bif (decide ((IntKind.wrap .i64 (a1 - (a0.length : Int))) < (0 : Int))) then
 k (-1 : Int)
 else
 vah vjv Fuel (a0, (IntKind.wrap .i64 (a1 - (a0.length : Int))), (0 : Int), (0 : Int)) (Sum.elim (fun z1 =>
 k z1.2.2.1) (fun z2 =>
 k z2.2.1))
def vzo := shut wca
theorem whj : vzo = wca := vap _
theorem wsr (a0 : (List van)) (a1 : Int) : Par (vzo a0 a1) := by
  rw [whj]
  unfold wca
  exact (vab (vaa _) ((vau wb7 _ _).bind2 (fun z1 => (vaa _)) (fun z2 => (vaa _))))
def wam (a0 : vaj) (a1 : Int) (k : Int → Option Res) : Option Res :=
 bif (decide ((IntKind.wrap .i64 (a1 - (a0.1.size : Int))) < (0 : Int))) then
 k (-1 : Int)
 else
 bif (decide ((IntKind.wrap .i64 ((IntKind.wrap .i64 (a1 - (a0.1.size : Int))) - (a0.2.1.size : Int))) < (0 : Int))) then
 k (-1 : Int)
 else
 k (IntKind.wrap .i64 ((IntKind.wrap .i64 (a1 - (a0.1.size : Int))) - (a0.2.1.size : Int)))
def vv1 := shut wam
theorem wjb : vv1 = wam := vap _
theorem wtw (a0 : vaj) (a1 : Int) : Par (vv1 a0 a1) := by
  rw [wjb]
  unfold wam
  exact (vab (vaa _) (vab (vaa _) (vaa _)))
def vle (x : q19T) (k : q19T ⊕ (q19T ⊕ q19T) → Option Res) : Option Res :=
 bif (decide (x.2.2.2 < (x.1.length : Int))) then
 if 0 ≤ x.2.2.2 ∧ x.2.2.2 < (x.1.length : Int) then
 vv1 (rd (Ty.zero tWrite) x.1 x.2.2.2) x.2.1 (fun y3 =>
 bif (decide (y3 < (0 : Int))) then
 k (.inr (.inl (x.1, y3, (-1 : Int), x.2.2.2)))
 else
 k (.inl (x.1, y3, x.2.2.1, (IntKind.wrap .i64 (x.2.2.2 + (1 : Int))))))
 else none
 else
 k (.inr (.inr (x.1, x.2.1, x.2.2.1, x.2.2.2)))
theorem wa5 (x : q19T) : Par (vle x) := by
  unfold vle
  exact (vab (vak ((wtw _ _).bind fun y3 => (vab (vaa _) (vaa _))) vae) (vaa _))
def wdb (a0 : (List vaj)) (a1 : Int) (k : Int → Option Res) : Option Res :=
 bif (decide ((IntKind.wrap .i64 (a1 - (a0.length : Int))) < (0 : Int))) then
 k (-1 : Int)
 else
 vah vle Fuel (a0, (IntKind.wrap .i64 (a1 - (a0.length : Int))), (0 : Int), (0 : Int)) (Sum.elim (fun z1 =>
 k z1.2.2.1) (fun z2 =>
 k z2.2.1))
def v0x := shut wdb
theorem wlh : v0x = wdb := vap _
theorem wty (a0 : (List vaj)) (a1 : Int) : Par (v0x a0 a1) := by
  rw [wlh]
  unfold wdb
  exact (vab (vaa _) ((vau wa5 _ _).bind2 (fun z1 => (vaa _)) (fun z2 => (vaa _))))
def wa0 (a0 : dTxn) (a1 : Int) (k : Int → Option Res) : Option Res :=
 vzo a0.2.2.2.2.1 a1 (fun y1 =>
 bif (decide (y1 < (0 : Int))) then
 k (-1 : Int)
 else
 v0x a0.2.2.2.2.2.1 y1 (fun y2 =>
 bif (decide (y2 < (0 : Int))) then
 k (-1 : Int)
 else
 bif (decide ((IntKind.wrap .i64 (y2 - (a0.2.2.2.2.2.2.2.size : Int))) < (0 : Int))) then
 k (-1 : Int)
 else
 k (IntKind.wrap .i64 (y2 - (a0.2.2.2.2.2.2.2.size : Int)))))
def vwh := shut wa0
theorem wgu : vwh = wa0 := vap _
theorem wub (a0 : dTxn) (a1 : Int) : Par (vwh a0 a1) := by
  rw [wgu]
  unfold wa0
  exact ((wsr _ _).bind fun y1 => (vab (vaa _) ((wty _ _).bind fun y2 => (vab (vaa _) (vab (vaa _) (vaa _))))))
def vj4 (x : q10T) (k : q10T ⊕ (q10T ⊕ q10T) → Option Res) : Option Res :=
 bif (decide (x.2.2.2 < (x.1.length : Int))) then
 if 0 ≤ x.2.2.2 ∧ x.2.2.2 < (x.1.length : Int) then
 vwh (rd (Ty.zero tTxn) x.1 x.2.2.2) x.2.1 (fun y3 =>
 bif (decide (y3 < (0 : Int))) then
 k (.inr (.inl (x.1, y3, (-1 : Int), x.2.2.2)))
 else
 k (.inl (x.1, y3, x.2.2.1, (IntKind.wrap .i64 (x.2.2.2 + (1 : Int))))))
 else none
 else
 k (.inr (.inr (x.1, x.2.1, x.2.2.1, x.2.2.2)))
theorem wax (x : q10T) : Par (vj4 x) := by
  unfold vj4
  exact (vab (vak ((wub _ _).bind fun y3 => (vab (vaa _) (vaa _))) vae) (vaa _))
def wde (a0 : (List dTxn)) (a1 : Int) (k : Int → Option Res) : Option Res :=
 bif (decide ((IntKind.wrap .i64 (a1 - (a0.length : Int))) < (0 : Int))) then
 k (-1 : Int)
 else
 vah vj4 Fuel (a0, (IntKind.wrap .i64 (a1 - (a0.length : Int))), (0 : Int), (0 : Int)) (Sum.elim (fun z1 =>
 k z1.2.2.1) (fun z2 =>
 k z2.2.1))
def vti := shut wde
theorem wlt : vti = wde := vap _
theorem wa3 (a0 : (List dTxn)) (a1 : Int) : Par (vti a0 a1) := by
  rw [wlt]
  unfold wde
  exact (vab (vaa _) ((vau wax _ _).bind2 (fun z1 => (vaa _)) (fun z2 => (vaa _))))
def wer (a0 : vha) (a1 : Int) (k : Int → Option Res) : Option Res :=
 vzm a0.1 a1 (fun y1 =>
 bif (decide (y1 < (0 : Int))) then
 k (-1 : Int)
 else
 vti a0.2.1 y1 (fun y2 =>
 bif (decide (y2 < (0 : Int))) then
 k (-1 : Int)
 else
 vti a0.2.2.1 y2 (fun y3 =>
 bif (decide (y3 < (0 : Int))) then
 k (-1 : Int)
 else
 k y3)))
def v0p := shut wer
theorem wj1 : v0p = wer := vap _
theorem wsl (a0 : vha) (a1 : Int) : Par (v0p a0 a1) := by
  rw [wj1]
  unfold wer
  exact ((wtd _ _).bind fun y1 => (vab (vaa _) ((wa3 _ _).bind fun y2 => (vab (vaa _) ((wa3 _ _).bind fun y3 => (vab (vaa _) (vaa _)))))))
def wd0 (a0 : va7) (a1 : Int) (k : Int → Option Res) : Option Res :=
 v0p a0.1 a1 (fun y1 =>
 bif (decide (y1 < (0 : Int))) then
 k (-1 : Int)
 else
 vti a0.2 y1 (fun y2 =>
 bif (decide (y2 < (0 : Int))) then
 k (-1 : Int)
 else
 k y2))
def vun := shut wd0
theorem wj9 : vun = wd0 := vap _
theorem wtj (a0 : va7) (a1 : Int) : Par (vun a0 a1) := by
  rw [wj9]
  unfold wd0
  exact ((wsl _ _).bind fun y1 => (vab (vaa _) ((wa3 _ _).bind fun y2 => (vab (vaa _) (vaa _)))))
def wlv (a0 : vac) (k : q39T → Option Res) : Option Res :=
 k (a0.1, a0.2.1, a0.2.2.1, a0.2.2.2)
def vwe := shut wlv
theorem wmb : vwe = wlv := vap _
theorem wt3 (a0 : vac) : Par (vwe a0) := by
  rw [wmb]
  unfold wlv
  exact (vaa _)
def vkg (x : q14T) (k : q14T ⊕ q14T → Option Res) : Option Res :=
 bif (decide (x.2.1 < (x.1.length : Int))) then
 if 0 ≤ x.2.1 ∧ x.2.1 < (x.1.length : Int) then
 vwe (rd (Ty.zero tVersion) x.1 x.2.1) (fun y2 =>
 if 0 ≤ x.2.1 ∧ x.2.1 < (x.2.2.length : Int) then
 k (.inl (x.1, (IntKind.wrap .i64 (x.2.1 + (1 : Int))), (x.2.2.set x.2.1.toNat y2)))
 else none)
 else none
 else
 k (.inr (x.1, x.2.1, x.2.2))
theorem wcm (x : q14T) : Par (vkg x) := by
  unfold vkg
  exact (vab (vak ((wt3 _).bind fun y2 => (vak (vaa _) vae)) vae) (vaa _))
def wc9 (a0 : (List vac)) (k : (List vac) → Option Res) : Option Res :=
 if 0 ≤ (a0.length : Int) ∧ (a0.length : Int) ≤ (a0.length : Int) ∧ (a0.length : Int) ≤ (VE.maxLen : Int) then
 vah vkg Fuel (a0, (0 : Int), (List.replicate (a0.length : Int).toNat (Ty.zero tVersion))) (fun z1 =>
 k z1.2.2)
 else none
def vws := shut wc9
theorem wkm : vws = wc9 := vap _
theorem wtz (a0 : (List vac)) : Par (vws a0) := by
  rw [wkm]
  unfold wc9
  exact (vak ((vau wcm _ _).bind fun z1 => (vaa _)) vae)
def wmp (a0 : van) (k : (ByteArray × ByteArray) → Option Res) : Option Res :=
 k (a0.1, a0.2)
def vxd := shut wmp
theorem wf2 : vxd = wmp := vap _
theorem wua (a0 : van) : Par (vxd a0) := by
  rw [wf2]
  unfold wmp
  exact (vaa _)
def vkc (x : q3T) (k : q3T ⊕ q3T → Option Res) : Option Res :=
 bif (decide (x.2.1 < (x.1.length : Int))) then
 if 0 ≤ x.2.1 ∧ x.2.1 < (x.1.length : Int) then
 vxd (rd (Ty.zero tRange) x.1 x.2.1) (fun y2 =>
 if 0 ≤ x.2.1 ∧ x.2.1 < (x.2.2.length : Int) then
 k (.inl (x.1, (IntKind.wrap .i64 (x.2.1 + (1 : Int))), (x.2.2.set x.2.1.toNat y2)))
 else none)
 else none
 else
 k (.inr (x.1, x.2.1, x.2.2))
theorem wb6 (x : q3T) : Par (vkc x) := by
  unfold vkc
  exact (vab (vak ((wua _).bind fun y2 => (vak (vaa _) vae)) vae) (vaa _))
def wad (a0 : (List van)) (k : (List van) → Option Res) : Option Res :=
 if 0 ≤ (a0.length : Int) ∧ (a0.length : Int) ≤ (a0.length : Int) ∧ (a0.length : Int) ≤ (VE.maxLen : Int) then
 vah vkc Fuel (a0, (0 : Int), (List.replicate (a0.length : Int).toNat (Ty.zero tRange))) (fun z1 =>
 k z1.2.2)
 else none
def vwz := shut wad
theorem wjq : vwz = wad := vap _
theorem ws0 (a0 : (List van)) : Par (vwz a0) := by
  rw [wjq]
  unfold wad
  exact (vak ((vau wb6 _ _).bind fun z1 => (vaa _)) vae)
def wjx (a0 : vaj) (k : (ByteArray × ByteArray × Bool) → Option Res) : Option Res :=
 k (a0.1, a0.2.1, a0.2.2)
def vu0 := shut wjx
theorem wmi : vu0 = wjx := vap _
theorem wsz (a0 : vaj) : Par (vu0 a0) := by
  rw [wmi]
  unfold wjx
  exact (vaa _)
def vjm (x : q18T) (k : q18T ⊕ q18T → Option Res) : Option Res :=
 bif (decide (x.2.1 < (x.1.length : Int))) then
 if 0 ≤ x.2.1 ∧ x.2.1 < (x.1.length : Int) then
 vu0 (rd (Ty.zero tWrite) x.1 x.2.1) (fun y2 =>
 if 0 ≤ x.2.1 ∧ x.2.1 < (x.2.2.length : Int) then
 k (.inl (x.1, (IntKind.wrap .i64 (x.2.1 + (1 : Int))), (x.2.2.set x.2.1.toNat y2)))
 else none)
 else none
 else
 k (.inr (x.1, x.2.1, x.2.2))
theorem wbv (x : q18T) : Par (vjm x) := by
  unfold vjm
  exact (vab (vak ((wsz _).bind fun y2 => (vak (vaa _) vae)) vae) (vaa _))
def wcl (a0 : (List vaj)) (k : (List vaj) → Option Res) : Option Res :=
 if 0 ≤ (a0.length : Int) ∧ (a0.length : Int) ≤ (a0.length : Int) ∧ (a0.length : Int) ≤ (VE.maxLen : Int) then
 vah vjm Fuel (a0, (0 : Int), (List.replicate (a0.length : Int).toNat (Ty.zero tWrite))) (fun z1 =>
 k z1.2.2)
 else none
def vvl := shut wcl
theorem wkz : vvl = wcl := vap _
theorem wud (a0 : (List vaj)) : Par (vvl a0) := by
  rw [wkz]
  unfold wcl
  exact (vak ((vau wbv _ _).bind fun z1 => (vaa _)) vae)
def wdw (a0 : dTxn) (k : q47T → Option Res) : Option Res :=
 vwz a0.2.2.2.2.1 (fun y1 =>
 vvl a0.2.2.2.2.2.1 (fun y2 =>
 k (a0.1, a0.2.1, a0.2.2.1, a0.2.2.2.1, a0.2.2.2.2.2.2.1, a0.2.2.2.2.2.2.2, y1, y2)))
def vt1 := shut wdw
theorem wln : vt1 = wdw := vap _
theorem wt7 (a0 : dTxn) : Par (vt1 a0) := by
  rw [wln]
  unfold wdw
  exact ((ws0 _).bind fun y1 => ((wud _).bind fun y2 => (vaa _)))
def vks (x : q6T) (k : q6T ⊕ q6T → Option Res) : Option Res :=
 bif (decide (x.2.1 < (x.1.length : Int))) then
 if 0 ≤ x.2.1 ∧ x.2.1 < (x.1.length : Int) then
 vt1 (rd (Ty.zero tTxn) x.1 x.2.1) (fun y2 =>
 if 0 ≤ x.2.1 ∧ x.2.1 < (x.2.2.length : Int) then
 k (.inl (x.1, (IntKind.wrap .i64 (x.2.1 + (1 : Int))), (x.2.2.set x.2.1.toNat (y2.1, (y2.2.1, (y2.2.2.1, (y2.2.2.2.1, (y2.2.2.2.2.2.2.1, (y2.2.2.2.2.2.2.2, (y2.2.2.2.2.1, y2.2.2.2.2.2.1))))))))))
 else none)
 else none
 else
 k (.inr (x.1, x.2.1, x.2.2))
theorem wdh (x : q6T) : Par (vks x) := by
  unfold vks
  exact (vab (vak ((wt7 _).bind fun y2 => (vak (vaa _) vae)) vae) (vaa _))
def wea (a0 : (List dTxn)) (k : (List dTxn) → Option Res) : Option Res :=
 if 0 ≤ (a0.length : Int) ∧ (a0.length : Int) ≤ (a0.length : Int) ∧ (a0.length : Int) ≤ (VE.maxLen : Int) then
 vah vks Fuel (a0, (0 : Int), (List.replicate (a0.length : Int).toNat (Ty.zero tTxn))) (fun z1 =>
 k z1.2.2)
 else none
def vq0 := shut wea
theorem wlr : vq0 = wea := vap _
theorem wbn (a0 : (List dTxn)) : Par (vq0 a0) := by
  rw [wlr]
  unfold wea
  exact (vak ((vau wdh _ _).bind fun z1 => (vaa _)) vae)
def wdu (a0 : vha) (k : q45T → Option Res) : Option Res :=
 vws a0.1 (fun y1 =>
 vq0 a0.2.1 (fun y2 =>
 vq0 a0.2.2.1 (fun y3 =>
 k (a0.2.2.2.1, a0.2.2.2.2, y1, y2, y3))))
def vw1 := shut wdu
theorem wk0 : vw1 = wdu := vap _
theorem wue (a0 : vha) : Par (vw1 a0) := by
  rw [wk0]
  unfold wdu
  exact ((wtz _).bind fun y1 => ((wbn _).bind fun y2 => ((wbn _).bind fun y3 => (vaa _))))
def wet (a0 : va7) (k : q42T → Option Res) : Option Res :=
 vw1 a0.1 (fun y1 =>
 vq0 a0.2 (fun y2 =>
 k (y1.1, y1.2.1, y1.2.2.1, y1.2.2.2.1, y1.2.2.2.2, y2)))
def via := shut wet
theorem wj7 : via = wet := vap _
theorem v5k (a0 : va7) : Par (via a0) := by
  rw [wj7]
  unfold wet
  exact ((wue _).bind fun y1 => ((wbn _).bind fun y2 => (vaa _)))
def wcn (a0 : dTxn) (k : q47T → Option Res) : Option Res :=
 if ([] : List van).length + a0.2.2.2.2.1.length ≤ VE.maxLen then
 if ([] : List vaj).length + a0.2.2.2.2.2.1.length ≤ VE.maxLen then
 k (a0.1, a0.2.1, a0.2.2.1, a0.2.2.2.1, a0.2.2.2.2.2.2.1, a0.2.2.2.2.2.2.2, (([] : List van) ++ a0.2.2.2.2.1), (([] : List vaj) ++ a0.2.2.2.2.2.1))
 else none
 else none
def vwc := shut wcn
theorem wgo : vwc = wcn := vap _
theorem ws7 (a0 : dTxn) : Par (vwc a0) := by
  rw [wgo]
  unfold wcn
  exact (vak (vak (vaa _) vae) vae)
def vlb (x : q6T) (k : q6T ⊕ q6T → Option Res) : Option Res :=
 bif (decide (x.2.1 < (x.1.length : Int))) then
 if 0 ≤ x.2.1 ∧ x.2.1 < (x.1.length : Int) then
 vwc (rd (Ty.zero tTxn) x.1 x.2.1) (fun y2 =>
 if x.2.2.length + [(y2.1, (y2.2.1, (y2.2.2.1, (y2.2.2.2.1, (y2.2.2.2.2.2.2.1, (y2.2.2.2.2.2.2.2, (y2.2.2.2.2.1, y2.2.2.2.2.2.1)))))))].length ≤ VE.maxLen then
 k (.inl (x.1, (IntKind.wrap .i64 (x.2.1 + (1 : Int))), (x.2.2 ++ [(y2.1, (y2.2.1, (y2.2.2.1, (y2.2.2.2.1, (y2.2.2.2.2.2.2.1, (y2.2.2.2.2.2.2.2, (y2.2.2.2.2.1, y2.2.2.2.2.2.1)))))))])))
 else none)
 else none
 else
 k (.inr (x.1, x.2.1, x.2.2))
theorem wcg (x : q6T) : Par (vlb x) := by
  unfold vlb
  exact (vab (vak ((ws7 _).bind fun y2 => (vak (vaa _) vae)) vae) (vaa _))
def wd7 (a0 : (List dTxn)) (k : (List dTxn) → Option Res) : Option Res :=
 vah vlb Fuel (a0, (0 : Int), ([] : List dTxn)) (fun z1 =>
 k z1.2.2)
def vqt := shut wd7
theorem wjy : vqt = wd7 := vap _
theorem wbx (a0 : (List dTxn)) : Par (vqt a0) := by
  rw [wjy]
  unfold wd7
  exact ((vau wcg _ _).bind fun z1 => (vaa _))
def v98 (a0 : vha) (k : q45T → Option Res) : Option Res :=
 if ([] : List vac).length + a0.1.length ≤ VE.maxLen then
 vqt a0.2.1 (fun y1 =>
 vqt a0.2.2.1 (fun y2 =>
 k (a0.2.2.2.1, a0.2.2.2.2, (([] : List vac) ++ a0.1), y1, y2)))
 else none
def v4s := shut v98
theorem wia : v4s = v98 := vap _
theorem wsy (a0 : vha) : Par (v4s a0) := by
  rw [wia]
  unfold v98
  exact (vak ((wbx _).bind fun y1 => ((wbx _).bind fun y2 => (vaa _))) vae)
def wat (a0 : va7) (k : q42T → Option Res) : Option Res :=
 v4s a0.1 (fun y1 =>
 vqt a0.2 (fun y2 =>
 k (y1.1, y1.2.1, y1.2.2.1, y1.2.2.2.1, y1.2.2.2.2, y2)))
def v0w := shut wat
theorem wg1 : v0w = wat := vap _
theorem wuc (a0 : va7) : Par (v0w a0) := by
  rw [wg1]
  unfold wat
  exact ((wsy _).bind fun y1 => ((wbx _).bind fun y2 => (vaa _)))
def wei (a0 : Int) (a1 : Int) (a2 : Int) (k : Bool → Option Res) : Option Res :=
 bif (decide (a0 ≥ a1)) then
 k (decide (a0 ≤ a2))
 else
 k false
def vdg := shut wei
theorem wk3 : vdg = wei := vap _
theorem vov (a0 : Int) (a1 : Int) (a2 : Int) : Par (vdg a0 a1 a2) := by
  rw [wk3]
  unfold wei
  exact (vab (vaa _) (vaa _))
def vj0 (x : (ByteArray × Bool × Int)) (k : (ByteArray × Bool × Int) ⊕ ((ByteArray × Bool × Int) ⊕ (ByteArray × Bool × Int)) → Option Res) : Option Res :=
 bif (decide (x.2.2 < (x.1.size : Int))) then
 if 0 ≤ x.2.2 ∧ x.2.2 < (x.1.size : Int) then
 bif (decide ((bt x.1 x.2.2) < (97 : Int))) then
 k (.inr (.inl (x.1, false, x.2.2)))
 else
 if 0 ≤ x.2.2 ∧ x.2.2 < (x.1.size : Int) then
 bif (decide ((bt x.1 x.2.2) > (122 : Int))) then
 k (.inr (.inl (x.1, false, x.2.2)))
 else
 k (.inl (x.1, x.2.1, (IntKind.wrap .i64 (x.2.2 + (1 : Int)))))
 else none
 else none
 else
 k (.inr (.inr (x.1, x.2.1, x.2.2)))
theorem wcw (x : (ByteArray × Bool × Int)) : Par (vj0 x) := by
  unfold vj0
  exact (vab (vak (vab (vaa _) (vak (vab (vaa _) (vaa _)) vae)) vae) (vaa _))
def wdn (a0 : ByteArray) (k : Bool → Option Res) : Option Res :=
 vah vj0 Fuel (a0, false, (0 : Int)) (Sum.elim (fun z1 =>
 k z1.2.1) (fun z2 =>
 vdg (z2.1.size : Int) (1 : Int) (3 : Int) (fun y3 =>
 k y3)))
def vi1 := shut wdn
theorem wja : vi1 = wdn := vap _
theorem v0u (a0 : ByteArray) : Par (vi1 a0) := by
  rw [wja]
  unfold wdn
  exact ((vau wcw _ _).bind2 (fun z1 => (vaa _)) (fun z2 => ((vov _ _ _).bind fun y3 => (vaa _))))
def vcj (x : q13T) (k : (q13T ⊕ q13T) → Option Res) : Option Res :=
 bif (decide (x.2.2.1 > (0 : Int))) then
 if 0 ≤ (IntKind.wrap .i64 (x.2.2.1 - (1 : Int))) ∧ (IntKind.wrap .i64 (x.2.2.1 - (1 : Int))) < (x.1.length : Int) then
 bif (!((va2 ((rd (Ty.zero tVersion) x.1 (IntKind.wrap .i64 (x.2.2.1 - (1 : Int)))).1) x.2.2.2.1) || (vbd ((rd (Ty.zero tVersion) x.1 (IntKind.wrap .i64 (x.2.2.1 - (1 : Int)))).1) x.2.2.2.1))) then
 k (.inl (x.1, false, x.2.2.1, x.2.2.2.1, x.2.2.2.2.1, x.2.2.2.2.2.1, x.2.2.2.2.2.2))
 else
 if 0 ≤ (IntKind.wrap .i64 (x.2.2.1 - (1 : Int))) ∧ (IntKind.wrap .i64 (x.2.2.1 - (1 : Int))) < (x.1.length : Int) then
 bif (vbd ((rd (Ty.zero tVersion) x.1 (IntKind.wrap .i64 (x.2.2.1 - (1 : Int)))).1) x.2.2.2.1) then
 if 0 ≤ (IntKind.wrap .i64 (x.2.2.1 - (1 : Int))) ∧ (IntKind.wrap .i64 (x.2.2.1 - (1 : Int))) < (x.1.length : Int) then
 bif (decide ((rd (Ty.zero tVersion) x.1 (IntKind.wrap .i64 (x.2.2.1 - (1 : Int)))).2.2.2 ≥ x.2.2.2.2.2.2)) then
 k (.inl (x.1, false, x.2.2.1, x.2.2.2.1, x.2.2.2.2.1, x.2.2.2.2.2.1, x.2.2.2.2.2.2))
 else
 k (.inr (x.1, x.2.1, x.2.2.1, x.2.2.2.1, x.2.2.2.2.1, x.2.2.2.2.2.1, x.2.2.2.2.2.2))
 else none
 else
 k (.inr (x.1, x.2.1, x.2.2.1, x.2.2.2.1, x.2.2.2.2.1, x.2.2.2.2.2.1, x.2.2.2.2.2.2))
 else none
 else none
 else
 k (.inr (x.1, x.2.1, x.2.2.1, x.2.2.2.1, x.2.2.2.2.1, x.2.2.2.2.2.1, x.2.2.2.2.2.2))
theorem vis (x : q13T) : Par (vcj x) := by
  unfold vcj
  exact (vab (vak (vab (vaa _) (vak (vab (vak (vab (vaa _) (vaa _)) vae) (vaa _)) vae)) vae) (vaa _))
def vk2 (x : ((List vac) × Bool × Int)) (k : ((List vac) × Bool × Int) ⊕ (((List vac) × Bool × Int) ⊕ ((List vac) × Bool × Int)) → Option Res) : Option Res :=
 bif (decide (x.2.2 < (x.1.length : Int))) then
 if 0 ≤ x.2.2 ∧ x.2.2 < (x.1.length : Int) then
 vi1 ((rd (Ty.zero tVersion) x.1 x.2.2).1) (fun y3 =>
 bif (!y3) then
 k (.inr (.inl (x.1, false, x.2.2)))
 else
 bif (decide (((rd (Ty.zero tVersion) x.1 x.2.2).2.1.size : Int) > (12 : Int))) then
 k (.inr (.inl (x.1, false, x.2.2)))
 else
 bif (rd (Ty.zero tVersion) x.1 x.2.2).2.2.1 then
 bif (!(vbd ((rd (Ty.zero tVersion) x.1 x.2.2).2.1) (⟨#[]⟩ : ByteArray))) then
 k (.inr (.inl (x.1, false, x.2.2)))
 else
 vdg ((rd (Ty.zero tVersion) x.1 x.2.2).2.2.2) (1 : Int) (9999 : Int) (fun y4 =>
 bif (!y4) then
 k (.inr (.inl (x.1, false, x.2.2)))
 else
 vcj (x.1, x.2.1, x.2.2, (rd (Ty.zero tVersion) x.1 x.2.2).1, (rd (Ty.zero tVersion) x.1 x.2.2).2.1, (rd (Ty.zero tVersion) x.1 x.2.2).2.2.1, (rd (Ty.zero tVersion) x.1 x.2.2).2.2.2) (Sum.elim (fun z5 =>
 k (.inr (.inl (z5.1, z5.2.1, z5.2.2.1)))) (fun z6 =>
 k (.inl (z6.1, z6.2.1, (IntKind.wrap .i64 (z6.2.2.1 + (1 : Int))))))))
 else
 vdg ((rd (Ty.zero tVersion) x.1 x.2.2).2.2.2) (1 : Int) (9999 : Int) (fun y7 =>
 bif (!y7) then
 k (.inr (.inl (x.1, false, x.2.2)))
 else
 vcj (x.1, x.2.1, x.2.2, (rd (Ty.zero tVersion) x.1 x.2.2).1, (rd (Ty.zero tVersion) x.1 x.2.2).2.1, (rd (Ty.zero tVersion) x.1 x.2.2).2.2.1, (rd (Ty.zero tVersion) x.1 x.2.2).2.2.2) (Sum.elim (fun z8 =>
 k (.inr (.inl (z8.1, z8.2.1, z8.2.2.1)))) (fun z9 =>
 k (.inl (z9.1, z9.2.1, (IntKind.wrap .i64 (z9.2.2.1 + (1 : Int)))))))))
 else none
 else
 k (.inr (.inr (x.1, x.2.1, x.2.2)))
theorem wai (x : ((List vac) × Bool × Int)) : Par (vk2 x) := by
  unfold vk2
  exact (vab (vak ((v0u _).bind fun y3 => (vab (vaa _) (vab (vaa _) (vab (vab (vaa _) ((vov _ _ _).bind fun y4 => (vab (vaa _) ((vis _).bind2 (fun z5 => (vaa _)) (fun z6 => (vaa _)))))) ((vov _ _ _).bind fun y7 => (vab (vaa _) ((vis _).bind2 (fun z8 => (vaa _)) (fun z9 => (vaa _))))))))) vae) (vaa _))
def web (a0 : (List vac)) (k : Bool → Option Res) : Option Res :=
 vah vk2 Fuel (a0, false, (0 : Int)) (Sum.elim (fun z1 =>
 k z1.2.1) (fun z2 =>
 k (decide ((z2.1.length : Int) ≤ (120 : Int)))))
def vty := shut web
theorem wj0 : vty = web := vap _
theorem wtv (a0 : (List vac)) : Par (vty a0) := by
  rw [wj0]
  unfold web
  exact ((vau wai _ _).bind2 (fun z1 => (vaa _)) (fun z2 => (vaa _)))
def wbr (a0 : vaj) (k : Bool → Option Res) : Option Res :=
 vi1 a0.1 (fun y1 =>
 bif y1 then
 bif (decide ((a0.2.1.size : Int) ≤ (12 : Int))) then
 bif (!a0.2.2) then
 k true
 else
 k (vbd a0.2.1 (⟨#[]⟩ : ByteArray))
 else
 k false
 else
 k false)
def vw2 := shut wbr
theorem wi1 : vw2 = wbr := vap _
theorem wsj (a0 : vaj) : Par (vw2 a0) := by
  rw [wi1]
  unfold wbr
  exact ((v0u _).bind fun y1 => (vab (vab (vab (vaa _) (vaa _)) (vaa _)) (vaa _)))
def vjf (x : ((List vaj) × Bool × Int)) (k : ((List vaj) × Bool × Int) ⊕ (((List vaj) × Bool × Int) ⊕ ((List vaj) × Bool × Int)) → Option Res) : Option Res :=
 bif (decide (x.2.2 < (x.1.length : Int))) then
 if 0 ≤ x.2.2 ∧ x.2.2 < (x.1.length : Int) then
 vw2 (rd (Ty.zero tWrite) x.1 x.2.2) (fun y3 =>
 bif (!y3) then
 k (.inr (.inl (x.1, false, x.2.2)))
 else
 bif (decide (x.2.2 > (0 : Int))) then
 if 0 ≤ (IntKind.wrap .i64 (x.2.2 - (1 : Int))) ∧ (IntKind.wrap .i64 (x.2.2 - (1 : Int))) < (x.1.length : Int) then
 if 0 ≤ x.2.2 ∧ x.2.2 < (x.1.length : Int) then
 bif (!(va2 ((rd (Ty.zero tWrite) x.1 (IntKind.wrap .i64 (x.2.2 - (1 : Int)))).1) ((rd (Ty.zero tWrite) x.1 x.2.2).1))) then
 k (.inr (.inl (x.1, false, x.2.2)))
 else
 k (.inl (x.1, x.2.1, (IntKind.wrap .i64 (x.2.2 + (1 : Int)))))
 else none
 else none
 else
 k (.inl (x.1, x.2.1, (IntKind.wrap .i64 (x.2.2 + (1 : Int))))))
 else none
 else
 k (.inr (.inr (x.1, x.2.1, x.2.2)))
theorem wdr (x : ((List vaj) × Bool × Int)) : Par (vjf x) := by
  unfold vjf
  exact (vab (vak ((wsj _).bind fun y3 => (vab (vaa _) (vab (vak (vak (vab (vaa _) (vaa _)) vae) vae) (vaa _)))) vae) (vaa _))
def v96 (a0 : (List vaj)) (k : Bool → Option Res) : Option Res :=
 vah vjf Fuel (a0, false, (0 : Int)) (Sum.elim (fun z1 =>
 k z1.2.1) (fun z2 =>
 k (decide ((z2.1.length : Int) ≤ (8 : Int)))))
def vtx := shut v96
theorem wi0 : vtx = v96 := vap _
theorem wsk (a0 : (List vaj)) : Par (vtx a0) := by
  rw [wi0]
  unfold v96
  exact ((vau wdr _ _).bind2 (fun z1 => (vaa _)) (fun z2 => (vaa _)))
def wb8 (a0 : van) (k : Bool → Option Res) : Option Res :=
 vi1 a0.1 (fun y1 =>
 bif y1 then
 vi1 a0.2 (fun y2 =>
 bif y2 then
 k ((va2 a0.1 a0.2) || (vbd a0.1 a0.2))
 else
 k false)
 else
 k false)
def vwj := shut wb8
theorem wgm : vwj = wb8 := vap _
theorem wtk (a0 : van) : Par (vwj a0) := by
  rw [wgm]
  unfold wb8
  exact ((v0u _).bind fun y1 => (vab ((v0u _).bind fun y2 => (vab (vaa _) (vaa _))) (vaa _)))
def vb4 (x : q36T) (k : q36T → Option Res) : Option Res :=
 bif (x.2.2.1 != (1 : Int)) then
 k (true, x.2.1, x.2.2.1, x.2.2.2.1, x.2.2.2.2.1, x.2.2.2.2.2.1, x.2.2.2.2.2.2.1, x.2.2.2.2.2.2.2.1, x.2.2.2.2.2.2.2.2)
 else
 k ((!x.2.2.2.2.2.2.2.1), x.2.1, x.2.2.1, x.2.2.2.1, x.2.2.2.2.1, x.2.2.2.2.2.1, x.2.2.2.2.2.2.1, x.2.2.2.2.2.2.2.1, x.2.2.2.2.2.2.2.2)
theorem vd2 (x : q36T) : Par (vb4 x) := by
  unfold vb4
  exact (vab (vaa _) (vaa _))
def vb6 (x : q36T) (k : q36T → Option Res) : Option Res :=
 bif (x.2.2.1 == (2 : Int)) then
 vi1 x.2.2.2.2.2.2.2.2 (fun y14 =>
 bif (!y14) then
 k (false, x.2.1, x.2.2.1, x.2.2.2.1, x.2.2.2.2.1, x.2.2.2.2.2.1, x.2.2.2.2.2.2.1, x.2.2.2.2.2.2.2.1, x.2.2.2.2.2.2.2.2)
 else
 bif (x.2.2.1 != (2 : Int)) then
 bif (!(vbd x.2.2.2.2.2.2.2.2 (⟨#[]⟩ : ByteArray))) then
 k (false, x.2.1, x.2.2.1, x.2.2.2.1, x.2.2.2.2.1, x.2.2.2.2.2.1, x.2.2.2.2.2.2.1, x.2.2.2.2.2.2.2.1, x.2.2.2.2.2.2.2.2)
 else
 vb4 (x.1, x.2.1, x.2.2.1, x.2.2.2.1, x.2.2.2.2.1, x.2.2.2.2.2.1, x.2.2.2.2.2.2.1, x.2.2.2.2.2.2.2.1, x.2.2.2.2.2.2.2.2) (fun z15 =>
 k (z15.1, z15.2.1, z15.2.2.1, z15.2.2.2.1, z15.2.2.2.2.1, z15.2.2.2.2.2.1, z15.2.2.2.2.2.2.1, z15.2.2.2.2.2.2.2.1, z15.2.2.2.2.2.2.2.2))
 else
 vb4 (x.1, x.2.1, x.2.2.1, x.2.2.2.1, x.2.2.2.2.1, x.2.2.2.2.2.1, x.2.2.2.2.2.2.1, x.2.2.2.2.2.2.2.1, x.2.2.2.2.2.2.2.2) (fun z16 =>
 k (z16.1, z16.2.1, z16.2.2.1, z16.2.2.2.1, z16.2.2.2.2.1, z16.2.2.2.2.2.1, z16.2.2.2.2.2.2.1, z16.2.2.2.2.2.2.2.1, z16.2.2.2.2.2.2.2.2)))
 else
 bif (x.2.2.1 != (2 : Int)) then
 bif (!(vbd x.2.2.2.2.2.2.2.2 (⟨#[]⟩ : ByteArray))) then
 k (false, x.2.1, x.2.2.1, x.2.2.2.1, x.2.2.2.2.1, x.2.2.2.2.2.1, x.2.2.2.2.2.2.1, x.2.2.2.2.2.2.2.1, x.2.2.2.2.2.2.2.2)
 else
 vb4 (x.1, x.2.1, x.2.2.1, x.2.2.2.1, x.2.2.2.2.1, x.2.2.2.2.2.1, x.2.2.2.2.2.2.1, x.2.2.2.2.2.2.2.1, x.2.2.2.2.2.2.2.2) (fun z17 =>
 k (z17.1, z17.2.1, z17.2.2.1, z17.2.2.2.1, z17.2.2.2.2.1, z17.2.2.2.2.2.1, z17.2.2.2.2.2.2.1, z17.2.2.2.2.2.2.2.1, z17.2.2.2.2.2.2.2.2))
 else
 vb4 (x.1, x.2.1, x.2.2.1, x.2.2.2.1, x.2.2.2.2.1, x.2.2.2.2.2.1, x.2.2.2.2.2.2.1, x.2.2.2.2.2.2.2.1, x.2.2.2.2.2.2.2.2) (fun z18 =>
 k (z18.1, z18.2.1, z18.2.2.1, z18.2.2.2.1, z18.2.2.2.2.1, z18.2.2.2.2.2.1, z18.2.2.2.2.2.2.1, z18.2.2.2.2.2.2.2.1, z18.2.2.2.2.2.2.2.2))
theorem vd6 (x : q36T) : Par (vb6 x) := by
  unfold vb6
  exact (vab ((v0u _).bind fun y14 => (vab (vaa _) (vab (vab (vaa _) ((vd2 _).bind fun z15 => (vaa _))) ((vd2 _).bind fun z16 => (vaa _))))) (vab (vab (vaa _) ((vd2 _).bind fun z17 => (vaa _))) ((vd2 _).bind fun z18 => (vaa _))))
def vjo (x : q38T) (k : q38T ⊕ (q38T ⊕ q38T) → Option Res) : Option Res :=
 bif (decide (x.2.1 < (x.2.2.2.2.2.2.1.length : Int))) then
 if 0 ≤ x.2.1 ∧ x.2.1 < (x.2.2.2.2.2.2.1.length : Int) then
 vwj (rd (Ty.zero tRange) x.2.2.2.2.2.2.1 x.2.1) (fun y6 =>
 bif (!y6) then
 k (.inr (.inl (false, x.2.1, x.2.2.1, x.2.2.2.1, x.2.2.2.2.1, x.2.2.2.2.2.1, x.2.2.2.2.2.2.1, x.2.2.2.2.2.2.2.1, x.2.2.2.2.2.2.2.2.1, x.2.2.2.2.2.2.2.2.2)))
 else
 k (.inl (x.1, (IntKind.wrap .i64 (x.2.1 + (1 : Int))), x.2.2.1, x.2.2.2.1, x.2.2.2.2.1, x.2.2.2.2.2.1, x.2.2.2.2.2.2.1, x.2.2.2.2.2.2.2.1, x.2.2.2.2.2.2.2.2.1, x.2.2.2.2.2.2.2.2.2)))
 else none
 else
 k (.inr (.inr (x.1, x.2.1, x.2.2.1, x.2.2.2.1, x.2.2.2.2.1, x.2.2.2.2.2.1, x.2.2.2.2.2.2.1, x.2.2.2.2.2.2.2.1, x.2.2.2.2.2.2.2.2.1, x.2.2.2.2.2.2.2.2.2)))
theorem wbz (x : q38T) : Par (vjo x) := by
  unfold vjo
  exact (vab (vak ((wtk _).bind fun y6 => (vab (vaa _) (vaa _))) vae) (vaa _))
def vc2 (x : q36T) (k : q36T → Option Res) : Option Res :=
 vah vjo Fuel (x.1, (0 : Int), x.2.1, x.2.2.1, x.2.2.2.1, x.2.2.2.2.1, x.2.2.2.2.2.1, x.2.2.2.2.2.2.1, x.2.2.2.2.2.2.2.1, x.2.2.2.2.2.2.2.2) (Sum.elim (fun z7 =>
 k (z7.1, z7.2.2.1, z7.2.2.2.1, z7.2.2.2.2.1, z7.2.2.2.2.2.1, z7.2.2.2.2.2.2.1, z7.2.2.2.2.2.2.2.1, z7.2.2.2.2.2.2.2.2.1, z7.2.2.2.2.2.2.2.2.2)) (fun z8 =>
 bif (z8.2.2.2.1 == (3 : Int)) then
 vdg z8.2.2.2.2.2.1 (IntKind.wrap .i64 (z8.2.2.2.2.1 + (1 : Int))) (9999 : Int) (fun y9 =>
 bif (!y9) then
 k (false, z8.2.2.1, z8.2.2.2.1, z8.2.2.2.2.1, z8.2.2.2.2.2.1, z8.2.2.2.2.2.2.1, z8.2.2.2.2.2.2.2.1, z8.2.2.2.2.2.2.2.2.1, z8.2.2.2.2.2.2.2.2.2)
 else
 bif (z8.2.2.2.1 != (3 : Int)) then
 bif (z8.2.2.2.2.2.1 != (0 : Int)) then
 k (false, z8.2.2.1, z8.2.2.2.1, z8.2.2.2.2.1, z8.2.2.2.2.2.1, z8.2.2.2.2.2.2.1, z8.2.2.2.2.2.2.2.1, z8.2.2.2.2.2.2.2.2.1, z8.2.2.2.2.2.2.2.2.2)
 else
 vb6 (z8.1, z8.2.2.1, z8.2.2.2.1, z8.2.2.2.2.1, z8.2.2.2.2.2.1, z8.2.2.2.2.2.2.1, z8.2.2.2.2.2.2.2.1, z8.2.2.2.2.2.2.2.2.1, z8.2.2.2.2.2.2.2.2.2) (fun z10 =>
 k (z10.1, z10.2.1, z10.2.2.1, z10.2.2.2.1, z10.2.2.2.2.1, z10.2.2.2.2.2.1, z10.2.2.2.2.2.2.1, z10.2.2.2.2.2.2.2.1, z10.2.2.2.2.2.2.2.2))
 else
 vb6 (z8.1, z8.2.2.1, z8.2.2.2.1, z8.2.2.2.2.1, z8.2.2.2.2.2.1, z8.2.2.2.2.2.2.1, z8.2.2.2.2.2.2.2.1, z8.2.2.2.2.2.2.2.2.1, z8.2.2.2.2.2.2.2.2.2) (fun z11 =>
 k (z11.1, z11.2.1, z11.2.2.1, z11.2.2.2.1, z11.2.2.2.2.1, z11.2.2.2.2.2.1, z11.2.2.2.2.2.2.1, z11.2.2.2.2.2.2.2.1, z11.2.2.2.2.2.2.2.2)))
 else
 bif (z8.2.2.2.1 != (3 : Int)) then
 bif (z8.2.2.2.2.2.1 != (0 : Int)) then
 k (false, z8.2.2.1, z8.2.2.2.1, z8.2.2.2.2.1, z8.2.2.2.2.2.1, z8.2.2.2.2.2.2.1, z8.2.2.2.2.2.2.2.1, z8.2.2.2.2.2.2.2.2.1, z8.2.2.2.2.2.2.2.2.2)
 else
 vb6 (z8.1, z8.2.2.1, z8.2.2.2.1, z8.2.2.2.2.1, z8.2.2.2.2.2.1, z8.2.2.2.2.2.2.1, z8.2.2.2.2.2.2.2.1, z8.2.2.2.2.2.2.2.2.1, z8.2.2.2.2.2.2.2.2.2) (fun z12 =>
 k (z12.1, z12.2.1, z12.2.2.1, z12.2.2.2.1, z12.2.2.2.2.1, z12.2.2.2.2.2.1, z12.2.2.2.2.2.2.1, z12.2.2.2.2.2.2.2.1, z12.2.2.2.2.2.2.2.2))
 else
 vb6 (z8.1, z8.2.2.1, z8.2.2.2.1, z8.2.2.2.2.1, z8.2.2.2.2.2.1, z8.2.2.2.2.2.2.1, z8.2.2.2.2.2.2.2.1, z8.2.2.2.2.2.2.2.2.1, z8.2.2.2.2.2.2.2.2.2) (fun z13 =>
 k (z13.1, z13.2.1, z13.2.2.1, z13.2.2.2.1, z13.2.2.2.2.1, z13.2.2.2.2.2.1, z13.2.2.2.2.2.2.1, z13.2.2.2.2.2.2.2.1, z13.2.2.2.2.2.2.2.2))))
theorem vnd (x : q36T) : Par (vc2 x) := by
  unfold vc2
  exact ((vau wbz _ _).bind2 (fun z7 => (vaa _)) (fun z8 => (vab ((vov _ _ _).bind fun y9 => (vab (vaa _) (vab (vab (vaa _) ((vd6 _).bind fun z10 => (vaa _))) ((vd6 _).bind fun z11 => (vaa _))))) (vab (vab (vaa _) ((vd6 _).bind fun z12 => (vaa _))) ((vd6 _).bind fun z13 => (vaa _))))))
def wdk (a0 : dTxn) (k : Bool → Option Res) : Option Res :=
 vdg a0.1 (1 : Int) (9999 : Int) (fun y1 =>
 bif (!y1) then
 k false
 else
 vdg a0.2.1 (1 : Int) (3 : Int) (fun y2 =>
 bif (!y2) then
 k false
 else
 vdg a0.2.2.1 (0 : Int) (9999 : Int) (fun y3 =>
 bif (!y3) then
 k false
 else
 bif (decide ((a0.2.2.2.2.1.length : Int) > (8 : Int))) then
 k false
 else
 vtx a0.2.2.2.2.2.1 (fun y4 =>
 bif (!y4) then
 k false
 else
 vc2 (false, a0.1, a0.2.1, a0.2.2.1, a0.2.2.2.1, a0.2.2.2.2.1, a0.2.2.2.2.2.1, a0.2.2.2.2.2.2.1, a0.2.2.2.2.2.2.2) (fun z5 =>
 k z5.1)))))
def vlh := shut wdk
theorem whe : vlh = wdk := vap _
theorem wby (a0 : dTxn) : Par (vlh a0) := by
  rw [whe]
  unfold wdk
  exact ((vov _ _ _).bind fun y1 => (vab (vaa _) ((vov _ _ _).bind fun y2 => (vab (vaa _) ((vov _ _ _).bind fun y3 => (vab (vaa _) (vab (vaa _) ((wsk _).bind fun y4 => (vab (vaa _) ((vnd _).bind fun z5 => (vaa _)))))))))))
def vk0 (x : q30T) (k : q30T ⊕ (q30T ⊕ q30T) → Option Res) : Option Res :=
 bif (decide (x.2.1 < (x.2.2.1.length : Int))) then
 if 0 ≤ x.2.1 ∧ x.2.1 < (x.2.2.1.length : Int) then
 bif (decide ((rd (Ty.zero tVersion) x.2.2.1 x.2.1).2.2.2 > x.2.2.2.2.2.1)) then
 k (.inr (.inl (false, x.2.1, x.2.2.1, x.2.2.2.1, x.2.2.2.2.1, x.2.2.2.2.2.1, x.2.2.2.2.2.2)))
 else
 k (.inl (x.1, (IntKind.wrap .i64 (x.2.1 + (1 : Int))), x.2.2.1, x.2.2.2.1, x.2.2.2.2.1, x.2.2.2.2.2.1, x.2.2.2.2.2.2))
 else none
 else
 k (.inr (.inr (x.1, x.2.1, x.2.2.1, x.2.2.2.1, x.2.2.2.2.1, x.2.2.2.2.2.1, x.2.2.2.2.2.2)))
theorem waj (x : q30T) : Par (vk0 x) := by
  unfold vk0
  exact (vab (vak (vab (vaa _) (vaa _)) vae) (vaa _))
def vkl (x : q27T) (k : q27T ⊕ (q27T ⊕ q27T) → Option Res) : Option Res :=
 bif (decide (x.2.1 < (x.2.2.2.1.length : Int))) then
 if 0 ≤ x.2.1 ∧ x.2.1 < (x.2.2.2.1.length : Int) then
 vlh (rd (Ty.zero tTxn) x.2.2.2.1 x.2.1) (fun y5 =>
 bif (!y5) then
 k (.inr (.inl (false, x.2.1, x.2.2.1, x.2.2.2.1, x.2.2.2.2.1, x.2.2.2.2.2.1, x.2.2.2.2.2.2.1, x.2.2.2.2.2.2.2)))
 else
 bif ((rd (Ty.zero tTxn) x.2.2.2.1 x.2.1).2.1 != (3 : Int)) then
 k (.inr (.inl (false, x.2.1, x.2.2.1, x.2.2.2.1, x.2.2.2.2.1, x.2.2.2.2.2.1, x.2.2.2.2.2.2.1, x.2.2.2.2.2.2.2)))
 else
 bif (decide ((rd (Ty.zero tTxn) x.2.2.2.1 x.2.1).2.2.2.1 > x.2.2.2.2.2.1)) then
 k (.inr (.inl (false, x.2.1, x.2.2.1, x.2.2.2.1, x.2.2.2.2.1, x.2.2.2.2.2.1, x.2.2.2.2.2.2.1, x.2.2.2.2.2.2.2)))
 else
 bif (decide (x.2.1 > (0 : Int))) then
 if 0 ≤ (IntKind.wrap .i64 (x.2.1 - (1 : Int))) ∧ (IntKind.wrap .i64 (x.2.1 - (1 : Int))) < (x.2.2.2.1.length : Int) then
 bif (decide ((rd (Ty.zero tTxn) x.2.2.2.1 (IntKind.wrap .i64 (x.2.1 - (1 : Int)))).2.2.2.1 ≥ (rd (Ty.zero tTxn) x.2.2.2.1 x.2.1).2.2.2.1)) then
 k (.inr (.inl (false, x.2.1, x.2.2.1, x.2.2.2.1, x.2.2.2.2.1, x.2.2.2.2.2.1, x.2.2.2.2.2.2.1, x.2.2.2.2.2.2.2)))
 else
 if x.2.2.2.2.2.2.2.length + [(rd (Ty.zero tTxn) x.2.2.2.1 x.2.1).1].length ≤ VE.maxLen then
 k (.inl (x.1, (IntKind.wrap .i64 (x.2.1 + (1 : Int))), x.2.2.1, x.2.2.2.1, x.2.2.2.2.1, x.2.2.2.2.2.1, x.2.2.2.2.2.2.1, (x.2.2.2.2.2.2.2 ++ [(rd (Ty.zero tTxn) x.2.2.2.1 x.2.1).1])))
 else none
 else none
 else
 if x.2.2.2.2.2.2.2.length + [(rd (Ty.zero tTxn) x.2.2.2.1 x.2.1).1].length ≤ VE.maxLen then
 k (.inl (x.1, (IntKind.wrap .i64 (x.2.1 + (1 : Int))), x.2.2.1, x.2.2.2.1, x.2.2.2.2.1, x.2.2.2.2.2.1, x.2.2.2.2.2.2.1, (x.2.2.2.2.2.2.2 ++ [(rd (Ty.zero tTxn) x.2.2.2.1 x.2.1).1])))
 else none)
 else none
 else
 k (.inr (.inr (x.1, x.2.1, x.2.2.1, x.2.2.2.1, x.2.2.2.2.1, x.2.2.2.2.2.1, x.2.2.2.2.2.2.1, x.2.2.2.2.2.2.2)))
theorem wdm (x : q27T) : Par (vkl x) := by
  unfold vkl
  exact (vab (vak ((wby _).bind fun y5 => (vab (vaa _) (vab (vaa _) (vab (vaa _) (vab (vak (vab (vaa _) (vak (vaa _) vae)) vae) (vak (vaa _) vae)))))) vae) (vaa _))
def vki (x : q27T) (k : q27T ⊕ (q27T ⊕ q27T) → Option Res) : Option Res :=
 bif (decide (x.2.1 < (x.2.2.2.2.1.length : Int))) then
 if 0 ≤ x.2.1 ∧ x.2.1 < (x.2.2.2.2.1.length : Int) then
 vlh (rd (Ty.zero tTxn) x.2.2.2.2.1 x.2.1) (fun y6 =>
 bif (!y6) then
 k (.inr (.inl (false, x.2.1, x.2.2.1, x.2.2.2.1, x.2.2.2.2.1, x.2.2.2.2.2.1, x.2.2.2.2.2.2.1, x.2.2.2.2.2.2.2)))
 else
 bif ((rd (Ty.zero tTxn) x.2.2.2.2.1 x.2.1).2.1 != (2 : Int)) then
 k (.inr (.inl (false, x.2.1, x.2.2.1, x.2.2.2.1, x.2.2.2.2.1, x.2.2.2.2.2.1, x.2.2.2.2.2.2.1, x.2.2.2.2.2.2.2)))
 else
 bif (decide ((rd (Ty.zero tTxn) x.2.2.2.2.1 x.2.1).2.2.1 > x.2.2.2.2.2.1)) then
 k (.inr (.inl (false, x.2.1, x.2.2.1, x.2.2.2.1, x.2.2.2.2.1, x.2.2.2.2.2.1, x.2.2.2.2.2.2.1, x.2.2.2.2.2.2.2)))
 else
 bif (decide (x.2.1 > (0 : Int))) then
 if 0 ≤ (IntKind.wrap .i64 (x.2.1 - (1 : Int))) ∧ (IntKind.wrap .i64 (x.2.1 - (1 : Int))) < (x.2.2.2.2.1.length : Int) then
 bif (!(va2 ((rd (Ty.zero tTxn) x.2.2.2.2.1 (IntKind.wrap .i64 (x.2.1 - (1 : Int)))).2.2.2.2.2.2.2) ((rd (Ty.zero tTxn) x.2.2.2.2.1 x.2.1).2.2.2.2.2.2.2))) then
 k (.inr (.inl (false, x.2.1, x.2.2.1, x.2.2.2.1, x.2.2.2.2.1, x.2.2.2.2.2.1, x.2.2.2.2.2.2.1, x.2.2.2.2.2.2.2)))
 else
 if x.2.2.2.2.2.2.2.length + [(rd (Ty.zero tTxn) x.2.2.2.2.1 x.2.1).1].length ≤ VE.maxLen then
 k (.inl (x.1, (IntKind.wrap .i64 (x.2.1 + (1 : Int))), x.2.2.1, x.2.2.2.1, x.2.2.2.2.1, x.2.2.2.2.2.1, x.2.2.2.2.2.2.1, (x.2.2.2.2.2.2.2 ++ [(rd (Ty.zero tTxn) x.2.2.2.2.1 x.2.1).1])))
 else none
 else none
 else
 if x.2.2.2.2.2.2.2.length + [(rd (Ty.zero tTxn) x.2.2.2.2.1 x.2.1).1].length ≤ VE.maxLen then
 k (.inl (x.1, (IntKind.wrap .i64 (x.2.1 + (1 : Int))), x.2.2.1, x.2.2.2.1, x.2.2.2.2.1, x.2.2.2.2.2.1, x.2.2.2.2.2.2.1, (x.2.2.2.2.2.2.2 ++ [(rd (Ty.zero tTxn) x.2.2.2.2.1 x.2.1).1])))
 else none)
 else none
 else
 k (.inr (.inr (x.1, x.2.1, x.2.2.1, x.2.2.2.1, x.2.2.2.2.1, x.2.2.2.2.2.1, x.2.2.2.2.2.2.1, x.2.2.2.2.2.2.2)))
theorem wda (x : q27T) : Par (vki x) := by
  unfold vki
  exact (vab (vak ((wby _).bind fun y6 => (vab (vaa _) (vab (vaa _) (vab (vaa _) (vab (vak (vab (vaa _) (vak (vaa _) vae)) vae) (vak (vaa _) vae)))))) vae) (vaa _))
def vmj (x : q32T) (k : q32T ⊕ (q32T ⊕ q32T) → Option Res) : Option Res :=
 bif (decide (x.2.2.1 < x.2.1)) then
 if 0 ≤ x.2.2.1 ∧ x.2.2.1 < (x.2.2.2.2.2.2.2.2.length : Int) then
 if 0 ≤ x.2.1 ∧ x.2.1 < (x.2.2.2.2.2.2.2.2.length : Int) then
 bif ((x.2.2.2.2.2.2.2.2.getD x.2.2.1.toNat (Ty.zero (.int .i64))) == (x.2.2.2.2.2.2.2.2.getD x.2.1.toNat (Ty.zero (.int .i64)))) then
 k (.inr (.inl (false, x.2.1, x.2.2.1, x.2.2.2.1, x.2.2.2.2.1, x.2.2.2.2.2.1, x.2.2.2.2.2.2.1, x.2.2.2.2.2.2.2.1, x.2.2.2.2.2.2.2.2)))
 else
 k (.inl (x.1, x.2.1, (IntKind.wrap .i64 (x.2.2.1 + (1 : Int))), x.2.2.2.1, x.2.2.2.2.1, x.2.2.2.2.2.1, x.2.2.2.2.2.2.1, x.2.2.2.2.2.2.2.1, x.2.2.2.2.2.2.2.2))
 else none
 else none
 else
 k (.inr (.inr (x.1, x.2.1, x.2.2.1, x.2.2.2.1, x.2.2.2.2.1, x.2.2.2.2.2.1, x.2.2.2.2.2.2.1, x.2.2.2.2.2.2.2.1, x.2.2.2.2.2.2.2.2)))
theorem wef (x : q32T) : Par (vmj x) := by
  unfold vmj
  exact (vab (vak (vak (vab (vaa _) (vaa _)) vae) vae) (vaa _))
def vj9 (x : q27T) (k : q27T ⊕ (q27T ⊕ q27T) → Option Res) : Option Res :=
 bif (decide (x.2.1 < (x.2.2.2.2.2.2.2.length : Int))) then
 vah vmj Fuel (x.1, x.2.1, (0 : Int), x.2.2.1, x.2.2.2.1, x.2.2.2.2.1, x.2.2.2.2.2.1, x.2.2.2.2.2.2.1, x.2.2.2.2.2.2.2) (Sum.elim (fun z7 =>
 k (.inr (.inr (z7.1, z7.2.1, z7.2.2.2.1, z7.2.2.2.2.1, z7.2.2.2.2.2.1, z7.2.2.2.2.2.2.1, z7.2.2.2.2.2.2.2.1, z7.2.2.2.2.2.2.2.2)))) (fun z8 =>
 if 0 ≤ z8.2.1 ∧ z8.2.1 < (z8.2.2.2.2.2.2.2.2.length : Int) then
 bif (decide ((z8.2.2.2.2.2.2.2.2.getD z8.2.1.toNat (Ty.zero (.int .i64))) ≥ z8.2.2.2.2.2.2.2.1)) then
 k (.inr (.inr (false, z8.2.1, z8.2.2.2.1, z8.2.2.2.2.1, z8.2.2.2.2.2.1, z8.2.2.2.2.2.2.1, z8.2.2.2.2.2.2.2.1, z8.2.2.2.2.2.2.2.2)))
 else
 k (.inl (z8.1, (IntKind.wrap .i64 (z8.2.1 + (1 : Int))), z8.2.2.2.1, z8.2.2.2.2.1, z8.2.2.2.2.2.1, z8.2.2.2.2.2.2.1, z8.2.2.2.2.2.2.2.1, z8.2.2.2.2.2.2.2.2))
 else none))
 else
 k (.inr (.inl (x.1, x.2.1, x.2.2.1, x.2.2.2.1, x.2.2.2.2.1, x.2.2.2.2.2.1, x.2.2.2.2.2.2.1, x.2.2.2.2.2.2.2)))
theorem wck (x : q27T) : Par (vj9 x) := by
  unfold vj9
  exact (vab ((vau wef _ _).bind2 (fun z7 => (vaa _)) (fun z8 => (vak (vab (vaa _) (vaa _)) vae))) (vaa _))
def vc0 (x : q25T) (k : q25T → Option Res) : Option Res :=
 vah vk0 Fuel (x.1, (0 : Int), x.2.1, x.2.2.1, x.2.2.2.1, x.2.2.2.2.1, x.2.2.2.2.2) (Sum.elim (fun z9 =>
 k (z9.1, z9.2.2.1, z9.2.2.2.1, z9.2.2.2.2.1, z9.2.2.2.2.2.1, z9.2.2.2.2.2.2)) (fun z10 =>
 vah vkl Fuel (z10.1, (0 : Int), z10.2.2.1, z10.2.2.2.1, z10.2.2.2.2.1, z10.2.2.2.2.2.1, z10.2.2.2.2.2.2, ([] : List Int)) (Sum.elim (fun z11 =>
 k (z11.1, z11.2.2.1, z11.2.2.2.1, z11.2.2.2.2.1, z11.2.2.2.2.2.1, z11.2.2.2.2.2.2.1)) (fun z12 =>
 vah vki Fuel (z12.1, (0 : Int), z12.2.2.1, z12.2.2.2.1, z12.2.2.2.2.1, z12.2.2.2.2.2.1, z12.2.2.2.2.2.2.1, z12.2.2.2.2.2.2.2) (Sum.elim (fun z13 =>
 k (z13.1, z13.2.2.1, z13.2.2.2.1, z13.2.2.2.2.1, z13.2.2.2.2.2.1, z13.2.2.2.2.2.2.1)) (fun z14 =>
 vah vj9 Fuel (z14.1, (0 : Int), z14.2.2.1, z14.2.2.2.1, z14.2.2.2.2.1, z14.2.2.2.2.2.1, z14.2.2.2.2.2.2.1, z14.2.2.2.2.2.2.2) (Sum.elim (fun z15 =>
 k (true, z15.2.2.1, z15.2.2.2.1, z15.2.2.2.2.1, z15.2.2.2.2.2.1, z15.2.2.2.2.2.2.1)) (fun z16 =>
 k (z16.1, z16.2.2.1, z16.2.2.2.1, z16.2.2.2.2.1, z16.2.2.2.2.2.1, z16.2.2.2.2.2.2.1)))))))))
theorem vo5 (x : q25T) : Par (vc0 x) := by
  unfold vc0
  exact ((vau waj _ _).bind2 (fun z9 => (vaa _)) (fun z10 => ((vau wdm _ _).bind2 (fun z11 => (vaa _)) (fun z12 => ((vau wda _ _).bind2 (fun z13 => (vaa _)) (fun z14 => ((vau wck _ _).bind2 (fun z15 => (vaa _)) (fun z16 => (vaa _)))))))))
def wd1 (a0 : vha) (k : Bool → Option Res) : Option Res :=
 vty a0.1 (fun y1 =>
 bif (!y1) then
 k false
 else
 bif (decide ((a0.2.1.length : Int) > (12 : Int))) then
 k false
 else
 bif (decide ((a0.2.2.1.length : Int) > (3 : Int))) then
 k false
 else
 vdg a0.2.2.2.1 (0 : Int) (9999 : Int) (fun y2 =>
 bif (!y2) then
 k false
 else
 vdg a0.2.2.2.2 (1 : Int) (9999 : Int) (fun y3 =>
 bif (!y3) then
 k false
 else
 vc0 (false, a0.1, a0.2.1, a0.2.2.1, a0.2.2.2.1, a0.2.2.2.2) (fun z4 =>
 k z4.1))))
def vtn := shut wd1
theorem wgv : vtn = wd1 := vap _
theorem wt5 (a0 : vha) : Par (vtn a0) := by
  rw [wgv]
  unfold wd1
  exact ((wtv _).bind fun y1 => (vab (vaa _) (vab (vaa _) (vab (vaa _) ((vov _ _ _).bind fun y2 => (vab (vaa _) ((vov _ _ _).bind fun y3 => (vab (vaa _) ((vo5 _).bind fun z4 => (vaa _))))))))))
def vj1 (x : q33T) (k : q33T ⊕ (q33T ⊕ q33T) → Option Res) : Option Res :=
 bif (decide (x.2.2.1 < (x.2.2.2.2.1.length : Int))) then
 if 0 ≤ x.2.2.1 ∧ x.2.2.1 < (x.2.2.2.2.1.length : Int) then
 bif ((rd (Ty.zero tTxn) x.2.2.2.2.1 x.2.2.1).1 == x.2.2.2.2.2.2.2.2.2.1) then
 k (.inr (.inl (false, x.2.1, x.2.2.1, x.2.2.2.1, x.2.2.2.2.1, x.2.2.2.2.2.1, x.2.2.2.2.2.2.1, x.2.2.2.2.2.2.2.1, x.2.2.2.2.2.2.2.2.1, x.2.2.2.2.2.2.2.2.2.1, x.2.2.2.2.2.2.2.2.2.2.1, x.2.2.2.2.2.2.2.2.2.2.2.1, x.2.2.2.2.2.2.2.2.2.2.2.2.1, x.2.2.2.2.2.2.2.2.2.2.2.2.2.1, x.2.2.2.2.2.2.2.2.2.2.2.2.2.2.1, x.2.2.2.2.2.2.2.2.2.2.2.2.2.2.2.1, x.2.2.2.2.2.2.2.2.2.2.2.2.2.2.2.2)))
 else
 k (.inl (x.1, x.2.1, (IntKind.wrap .i64 (x.2.2.1 + (1 : Int))), x.2.2.2.1, x.2.2.2.2.1, x.2.2.2.2.2.1, x.2.2.2.2.2.2.1, x.2.2.2.2.2.2.2.1, x.2.2.2.2.2.2.2.2.1, x.2.2.2.2.2.2.2.2.2.1, x.2.2.2.2.2.2.2.2.2.2.1, x.2.2.2.2.2.2.2.2.2.2.2.1, x.2.2.2.2.2.2.2.2.2.2.2.2.1, x.2.2.2.2.2.2.2.2.2.2.2.2.2.1, x.2.2.2.2.2.2.2.2.2.2.2.2.2.2.1, x.2.2.2.2.2.2.2.2.2.2.2.2.2.2.2.1, x.2.2.2.2.2.2.2.2.2.2.2.2.2.2.2.2))
 else none
 else
 k (.inr (.inr (x.1, x.2.1, x.2.2.1, x.2.2.2.1, x.2.2.2.2.1, x.2.2.2.2.2.1, x.2.2.2.2.2.2.1, x.2.2.2.2.2.2.2.1, x.2.2.2.2.2.2.2.2.1, x.2.2.2.2.2.2.2.2.2.1, x.2.2.2.2.2.2.2.2.2.2.1, x.2.2.2.2.2.2.2.2.2.2.2.1, x.2.2.2.2.2.2.2.2.2.2.2.2.1, x.2.2.2.2.2.2.2.2.2.2.2.2.2.1, x.2.2.2.2.2.2.2.2.2.2.2.2.2.2.1, x.2.2.2.2.2.2.2.2.2.2.2.2.2.2.2.1, x.2.2.2.2.2.2.2.2.2.2.2.2.2.2.2.2)))
theorem wac (x : q33T) : Par (vj1 x) := by
  unfold vj1
  exact (vab (vak (vab (vaa _) (vaa _)) vae) (vaa _))
def vjk (x : q33T) (k : q33T ⊕ (q33T ⊕ q33T) → Option Res) : Option Res :=
 bif (decide (x.2.2.1 < (x.2.2.2.2.2.1.length : Int))) then
 if 0 ≤ x.2.2.1 ∧ x.2.2.1 < (x.2.2.2.2.2.1.length : Int) then
 bif ((rd (Ty.zero tTxn) x.2.2.2.2.2.1 x.2.2.1).1 == x.2.2.2.2.2.2.2.2.2.1) then
 k (.inr (.inl (false, x.2.1, x.2.2.1, x.2.2.2.1, x.2.2.2.2.1, x.2.2.2.2.2.1, x.2.2.2.2.2.2.1, x.2.2.2.2.2.2.2.1, x.2.2.2.2.2.2.2.2.1, x.2.2.2.2.2.2.2.2.2.1, x.2.2.2.2.2.2.2.2.2.2.1, x.2.2.2.2.2.2.2.2.2.2.2.1, x.2.2.2.2.2.2.2.2.2.2.2.2.1, x.2.2.2.2.2.2.2.2.2.2.2.2.2.1, x.2.2.2.2.2.2.2.2.2.2.2.2.2.2.1, x.2.2.2.2.2.2.2.2.2.2.2.2.2.2.2.1, x.2.2.2.2.2.2.2.2.2.2.2.2.2.2.2.2)))
 else
 k (.inl (x.1, x.2.1, (IntKind.wrap .i64 (x.2.2.1 + (1 : Int))), x.2.2.2.1, x.2.2.2.2.1, x.2.2.2.2.2.1, x.2.2.2.2.2.2.1, x.2.2.2.2.2.2.2.1, x.2.2.2.2.2.2.2.2.1, x.2.2.2.2.2.2.2.2.2.1, x.2.2.2.2.2.2.2.2.2.2.1, x.2.2.2.2.2.2.2.2.2.2.2.1, x.2.2.2.2.2.2.2.2.2.2.2.2.1, x.2.2.2.2.2.2.2.2.2.2.2.2.2.1, x.2.2.2.2.2.2.2.2.2.2.2.2.2.2.1, x.2.2.2.2.2.2.2.2.2.2.2.2.2.2.2.1, x.2.2.2.2.2.2.2.2.2.2.2.2.2.2.2.2))
 else none
 else
 k (.inr (.inr (x.1, x.2.1, x.2.2.1, x.2.2.2.1, x.2.2.2.2.1, x.2.2.2.2.2.1, x.2.2.2.2.2.2.1, x.2.2.2.2.2.2.2.1, x.2.2.2.2.2.2.2.2.1, x.2.2.2.2.2.2.2.2.2.1, x.2.2.2.2.2.2.2.2.2.2.1, x.2.2.2.2.2.2.2.2.2.2.2.1, x.2.2.2.2.2.2.2.2.2.2.2.2.1, x.2.2.2.2.2.2.2.2.2.2.2.2.2.1, x.2.2.2.2.2.2.2.2.2.2.2.2.2.2.1, x.2.2.2.2.2.2.2.2.2.2.2.2.2.2.2.1, x.2.2.2.2.2.2.2.2.2.2.2.2.2.2.2.2)))
theorem wbl (x : q33T) : Par (vjk x) := by
  unfold vjk
  exact (vab (vak (vab (vaa _) (vaa _)) vae) (vaa _))
def vcm (x : q28T) (k : (q28T ⊕ q28T) → Option Res) : Option Res :=
 vah vj1 Fuel (x.1, x.2.1, (0 : Int), x.2.2.1, x.2.2.2.1, x.2.2.2.2.1, x.2.2.2.2.2.1, x.2.2.2.2.2.2.1, x.2.2.2.2.2.2.2.1, x.2.2.2.2.2.2.2.2.1, x.2.2.2.2.2.2.2.2.2.1, x.2.2.2.2.2.2.2.2.2.2.1, x.2.2.2.2.2.2.2.2.2.2.2.1, x.2.2.2.2.2.2.2.2.2.2.2.2.1, x.2.2.2.2.2.2.2.2.2.2.2.2.2.1, x.2.2.2.2.2.2.2.2.2.2.2.2.2.2.1, x.2.2.2.2.2.2.2.2.2.2.2.2.2.2.2) (Sum.elim (fun z10 =>
 k (.inl (z10.1, z10.2.1, z10.2.2.2.1, z10.2.2.2.2.1, z10.2.2.2.2.2.1, z10.2.2.2.2.2.2.1, z10.2.2.2.2.2.2.2.1, z10.2.2.2.2.2.2.2.2.1, z10.2.2.2.2.2.2.2.2.2.1, z10.2.2.2.2.2.2.2.2.2.2.1, z10.2.2.2.2.2.2.2.2.2.2.2.1, z10.2.2.2.2.2.2.2.2.2.2.2.2.1, z10.2.2.2.2.2.2.2.2.2.2.2.2.2.1, z10.2.2.2.2.2.2.2.2.2.2.2.2.2.2.1, z10.2.2.2.2.2.2.2.2.2.2.2.2.2.2.2.1, z10.2.2.2.2.2.2.2.2.2.2.2.2.2.2.2.2))) (fun z11 =>
 vah vjk Fuel (z11.1, z11.2.1, (0 : Int), z11.2.2.2.1, z11.2.2.2.2.1, z11.2.2.2.2.2.1, z11.2.2.2.2.2.2.1, z11.2.2.2.2.2.2.2.1, z11.2.2.2.2.2.2.2.2.1, z11.2.2.2.2.2.2.2.2.2.1, z11.2.2.2.2.2.2.2.2.2.2.1, z11.2.2.2.2.2.2.2.2.2.2.2.1, z11.2.2.2.2.2.2.2.2.2.2.2.2.1, z11.2.2.2.2.2.2.2.2.2.2.2.2.2.1, z11.2.2.2.2.2.2.2.2.2.2.2.2.2.2.1, z11.2.2.2.2.2.2.2.2.2.2.2.2.2.2.2.1, z11.2.2.2.2.2.2.2.2.2.2.2.2.2.2.2.2) (Sum.elim (fun z12 =>
 k (.inl (z12.1, z12.2.1, z12.2.2.2.1, z12.2.2.2.2.1, z12.2.2.2.2.2.1, z12.2.2.2.2.2.2.1, z12.2.2.2.2.2.2.2.1, z12.2.2.2.2.2.2.2.2.1, z12.2.2.2.2.2.2.2.2.2.1, z12.2.2.2.2.2.2.2.2.2.2.1, z12.2.2.2.2.2.2.2.2.2.2.2.1, z12.2.2.2.2.2.2.2.2.2.2.2.2.1, z12.2.2.2.2.2.2.2.2.2.2.2.2.2.1, z12.2.2.2.2.2.2.2.2.2.2.2.2.2.2.1, z12.2.2.2.2.2.2.2.2.2.2.2.2.2.2.2.1, z12.2.2.2.2.2.2.2.2.2.2.2.2.2.2.2.2))) (fun z13 =>
 k (.inr (z13.1, z13.2.1, z13.2.2.2.1, z13.2.2.2.2.1, z13.2.2.2.2.2.1, z13.2.2.2.2.2.2.1, z13.2.2.2.2.2.2.2.1, z13.2.2.2.2.2.2.2.2.1, z13.2.2.2.2.2.2.2.2.2.1, z13.2.2.2.2.2.2.2.2.2.2.1, z13.2.2.2.2.2.2.2.2.2.2.2.1, z13.2.2.2.2.2.2.2.2.2.2.2.2.1, z13.2.2.2.2.2.2.2.2.2.2.2.2.2.1, z13.2.2.2.2.2.2.2.2.2.2.2.2.2.2.1, z13.2.2.2.2.2.2.2.2.2.2.2.2.2.2.2.1, z13.2.2.2.2.2.2.2.2.2.2.2.2.2.2.2.2))))))
theorem vim (x : q28T) : Par (vcm x) := by
  unfold vcm
  exact ((vau wac _ _).bind2 (fun z10 => (vaa _)) (fun z11 => ((vau wbl _ _).bind2 (fun z12 => (vaa _)) (fun z13 => (vaa _)))))
def vk8 (x : q29T) (k : q29T ⊕ (q29T ⊕ q29T) → Option Res) : Option Res :=
 bif (decide (x.2.1 < (x.2.2.2.2.2.2.2.length : Int))) then
 if 0 ≤ x.2.1 ∧ x.2.1 < (x.2.2.2.2.2.2.2.length : Int) then
 vlh (rd (Ty.zero tTxn) x.2.2.2.2.2.2.2 x.2.1) (fun y3 =>
 bif (!y3) then
 k (.inr (.inl (false, x.2.1, x.2.2.1, x.2.2.2.1, x.2.2.2.2.1, x.2.2.2.2.2.1, x.2.2.2.2.2.2.1, x.2.2.2.2.2.2.2)))
 else
 bif ((rd (Ty.zero tTxn) x.2.2.2.2.2.2.2 x.2.1).2.1 != (1 : Int)) then
 k (.inr (.inl (false, x.2.1, x.2.2.1, x.2.2.2.1, x.2.2.2.2.1, x.2.2.2.2.2.1, x.2.2.2.2.2.2.1, x.2.2.2.2.2.2.2)))
 else
 bif (decide ((rd (Ty.zero tTxn) x.2.2.2.2.2.2.2 x.2.1).1 ≥ x.2.2.2.2.2.2.1)) then
 k (.inr (.inl (false, x.2.1, x.2.2.1, x.2.2.2.1, x.2.2.2.2.1, x.2.2.2.2.2.1, x.2.2.2.2.2.2.1, x.2.2.2.2.2.2.2)))
 else
 bif (decide ((rd (Ty.zero tTxn) x.2.2.2.2.2.2.2 x.2.1).2.2.1 > x.2.2.2.2.2.1)) then
 k (.inr (.inl (false, x.2.1, x.2.2.1, x.2.2.2.1, x.2.2.2.2.1, x.2.2.2.2.2.1, x.2.2.2.2.2.2.1, x.2.2.2.2.2.2.2)))
 else
 bif (decide (x.2.1 > (0 : Int))) then
 if 0 ≤ (IntKind.wrap .i64 (x.2.1 - (1 : Int))) ∧ (IntKind.wrap .i64 (x.2.1 - (1 : Int))) < (x.2.2.2.2.2.2.2.length : Int) then
 bif (decide ((rd (Ty.zero tTxn) x.2.2.2.2.2.2.2 (IntKind.wrap .i64 (x.2.1 - (1 : Int)))).1 ≥ (rd (Ty.zero tTxn) x.2.2.2.2.2.2.2 x.2.1).1)) then
 k (.inr (.inl (false, x.2.1, x.2.2.1, x.2.2.2.1, x.2.2.2.2.1, x.2.2.2.2.2.1, x.2.2.2.2.2.2.1, x.2.2.2.2.2.2.2)))
 else
 vcm (x.1, x.2.1, x.2.2.1, x.2.2.2.1, x.2.2.2.2.1, x.2.2.2.2.2.1, x.2.2.2.2.2.2.1, x.2.2.2.2.2.2.2, (rd (Ty.zero tTxn) x.2.2.2.2.2.2.2 x.2.1).1, (rd (Ty.zero tTxn) x.2.2.2.2.2.2.2 x.2.1).2.1, (rd (Ty.zero tTxn) x.2.2.2.2.2.2.2 x.2.1).2.2.1, (rd (Ty.zero tTxn) x.2.2.2.2.2.2.2 x.2.1).2.2.2.1, (rd (Ty.zero tTxn) x.2.2.2.2.2.2.2 x.2.1).2.2.2.2.1, (rd (Ty.zero tTxn) x.2.2.2.2.2.2.2 x.2.1).2.2.2.2.2.1, (rd (Ty.zero tTxn) x.2.2.2.2.2.2.2 x.2.1).2.2.2.2.2.2.1, (rd (Ty.zero tTxn) x.2.2.2.2.2.2.2 x.2.1).2.2.2.2.2.2.2) (Sum.elim (fun z4 =>
 k (.inr (.inl (z4.1, z4.2.1, z4.2.2.1, z4.2.2.2.1, z4.2.2.2.2.1, z4.2.2.2.2.2.1, z4.2.2.2.2.2.2.1, z4.2.2.2.2.2.2.2.1)))) (fun z5 =>
 k (.inl (z5.1, (IntKind.wrap .i64 (z5.2.1 + (1 : Int))), z5.2.2.1, z5.2.2.2.1, z5.2.2.2.2.1, z5.2.2.2.2.2.1, z5.2.2.2.2.2.2.1, z5.2.2.2.2.2.2.2.1))))
 else none
 else
 vcm (x.1, x.2.1, x.2.2.1, x.2.2.2.1, x.2.2.2.2.1, x.2.2.2.2.2.1, x.2.2.2.2.2.2.1, x.2.2.2.2.2.2.2, (rd (Ty.zero tTxn) x.2.2.2.2.2.2.2 x.2.1).1, (rd (Ty.zero tTxn) x.2.2.2.2.2.2.2 x.2.1).2.1, (rd (Ty.zero tTxn) x.2.2.2.2.2.2.2 x.2.1).2.2.1, (rd (Ty.zero tTxn) x.2.2.2.2.2.2.2 x.2.1).2.2.2.1, (rd (Ty.zero tTxn) x.2.2.2.2.2.2.2 x.2.1).2.2.2.2.1, (rd (Ty.zero tTxn) x.2.2.2.2.2.2.2 x.2.1).2.2.2.2.2.1, (rd (Ty.zero tTxn) x.2.2.2.2.2.2.2 x.2.1).2.2.2.2.2.2.1, (rd (Ty.zero tTxn) x.2.2.2.2.2.2.2 x.2.1).2.2.2.2.2.2.2) (Sum.elim (fun z6 =>
 k (.inr (.inl (z6.1, z6.2.1, z6.2.2.1, z6.2.2.2.1, z6.2.2.2.2.1, z6.2.2.2.2.2.1, z6.2.2.2.2.2.2.1, z6.2.2.2.2.2.2.2.1)))) (fun z7 =>
 k (.inl (z7.1, (IntKind.wrap .i64 (z7.2.1 + (1 : Int))), z7.2.2.1, z7.2.2.2.1, z7.2.2.2.2.1, z7.2.2.2.2.2.1, z7.2.2.2.2.2.2.1, z7.2.2.2.2.2.2.2.1)))))
 else none
 else
 k (.inr (.inr (x.1, x.2.1, x.2.2.1, x.2.2.2.1, x.2.2.2.2.1, x.2.2.2.2.2.1, x.2.2.2.2.2.2.1, x.2.2.2.2.2.2.2)))
theorem wd2 (x : q29T) : Par (vk8 x) := by
  unfold vk8
  exact (vab (vak ((wby _).bind fun y3 => (vab (vaa _) (vab (vaa _) (vab (vaa _) (vab (vaa _) (vab (vak (vab (vaa _) ((vim _).bind2 (fun z4 => (vaa _)) (fun z5 => (vaa _)))) vae) ((vim _).bind2 (fun z6 => (vaa _)) (fun z7 => (vaa _))))))))) vae) (vaa _))
def vc5 (x : q24T) (k : q24T → Option Res) : Option Res :=
 vah vk8 Fuel (x.1, (0 : Int), x.2.1, x.2.2.1, x.2.2.2.1, x.2.2.2.2.1, x.2.2.2.2.2.1, x.2.2.2.2.2.2) (Sum.elim (fun z8 =>
 k (z8.1, z8.2.2.1, z8.2.2.2.1, z8.2.2.2.2.1, z8.2.2.2.2.2.1, z8.2.2.2.2.2.2.1, z8.2.2.2.2.2.2.2)) (fun z9 =>
 k (true, z9.2.2.1, z9.2.2.2.1, z9.2.2.2.2.1, z9.2.2.2.2.2.1, z9.2.2.2.2.2.2.1, z9.2.2.2.2.2.2.2)))
theorem voh (x : q24T) : Par (vc5 x) := by
  unfold vc5
  exact ((vau wd2 _ _).bind2 (fun z8 => (vaa _)) (fun z9 => (vaa _)))
def wc7 (a0 : va7) (k : Bool → Option Res) : Option Res :=
 vtn a0.1 (fun y1 =>
 bif (!y1) then
 k false
 else
 bif (decide ((a0.2.length : Int) > (4 : Int))) then
 k false
 else
 vc5 (false, a0.1.1, a0.1.2.1, a0.1.2.2.1, a0.1.2.2.2.1, a0.1.2.2.2.2, a0.2) (fun z2 =>
 k z2.1))
def vwx := shut wc7
theorem whk : vwx = wc7 := vap _
theorem ws3 (a0 : va7) : Par (vwx a0) := by
  rw [whk]
  unfold wc7
  exact ((wt5 _).bind fun y1 => (vab (vaa _) (vab (vaa _) ((voh _).bind fun z2 => (vaa _)))))
def vdn (x : q43T) (k : q44T → Option Res) : Option Res :=
 if x.2.2.2.2.2.2.2.2.2.2.2.2.2.2.2.2.2.2.2.length + [(x.2.2.2.2.2.2.1, ((1 : Int), (x.2.2.2.2.2.1, ((0 : Int), (([] : List van), (([] : List vaj), (false, (⟨#[]⟩ : ByteArray))))))))].length ≤ VE.maxLen then
 k (x.2.2.2.2.2.2.1, (0 : Int), x.2.2.1, x.2.2.2.1, x.2.2.2.2.1, x.2.2.2.2.2.1, x.2.2.2.2.2.2.1, x.2.2.2.2.2.2.2.1, x.2.2.2.2.2.2.2.2.2.2.1, (IntKind.wrap .i64 (x.2.2.2.2.2.2.1 + (1 : Int))), x.2.2.2.2.2.2.2.2.2.2.1, (IntKind.wrap .i64 (x.2.2.2.2.2.2.1 + (1 : Int))), x.2.2.2.2.2.2.2.2.2.2.2.2.2.2.2.2.1, x.2.2.2.2.2.2.2.2.2.2.2.2.2.2.2.2.2.1, x.2.2.2.2.2.2.2.2.2.2.2.2.2.2.2.2.2.2.1, (x.2.2.2.2.2.2.2.2.2.2.2.2.2.2.2.2.2.2.2 ++ [(x.2.2.2.2.2.2.1, ((1 : Int), (x.2.2.2.2.2.1, ((0 : Int), (([] : List van), (([] : List vaj), (false, (⟨#[]⟩ : ByteArray))))))))]))
 else none
theorem vpd (x : q43T) : Par (vdn x) := by
  unfold vdn
  exact (vak (vaa _) vae)
def weh (a0 : va7) (k : q46T → Option Res) : Option Res :=
 v0w a0 (fun y1 =>
 vwx a0 (fun y2 =>
 bif (!y2) then
 k (y1.1, y1.2.1, (0 : Int), (3 : Int), y1.2.2.1, y1.2.2.2.1, y1.2.2.2.2.1, y1.2.2.2.2.2)
 else
 bif (decide ((a0.2.length : Int) ≥ (4 : Int))) then
 k (y1.1, y1.2.1, (0 : Int), (3 : Int), y1.2.2.1, y1.2.2.2.1, y1.2.2.2.2.1, y1.2.2.2.2.2)
 else
 bif (decide (a0.1.2.2.2.2 ≥ (9999 : Int))) then
 k (y1.1, y1.2.1, (0 : Int), (3 : Int), y1.2.2.1, y1.2.2.2.1, y1.2.2.2.2.1, y1.2.2.2.2.2)
 else
 vdn ((0 : Int), (0 : Int), a0.1.1, a0.1.2.1, a0.1.2.2.1, a0.1.2.2.2.1, a0.1.2.2.2.2, a0.2, (0 : Int), (0 : Int), y1.1, y1.2.1, ([] : List vac), ([] : List dTxn), ([] : List dTxn), ([] : List dTxn), y1.2.2.1, y1.2.2.2.1, y1.2.2.2.2.1, y1.2.2.2.2.2) (fun z3 =>
 k (z3.2.2.2.2.2.2.2.2.1, z3.2.2.2.2.2.2.2.2.2.1, z3.1, z3.2.1, z3.2.2.2.2.2.2.2.2.2.2.2.2.1, z3.2.2.2.2.2.2.2.2.2.2.2.2.2.1, z3.2.2.2.2.2.2.2.2.2.2.2.2.2.2.1, z3.2.2.2.2.2.2.2.2.2.2.2.2.2.2.2))))
def vv2 := shut weh
theorem wls : vv2 = weh := vap _
theorem wtm (a0 : va7) : Par (vv2 a0) := by
  rw [wls]
  unfold weh
  exact ((wuc _).bind fun y1 => ((ws3 _).bind fun y2 => (vab (vaa _) (vab (vaa _) (vab (vaa _) ((vpd _).bind fun z3 => (vaa _)))))))
def wcp (a0 : dTxn) (k : q47T → Option Res) : Option Res :=
 if a0.2.2.2.2.1.length ≤ VE.maxLen then
 if a0.2.2.2.2.2.1.length ≤ VE.maxLen then
 k (a0.1, a0.2.1, a0.2.2.1, a0.2.2.2.1, a0.2.2.2.2.2.2.1, a0.2.2.2.2.2.2.2, a0.2.2.2.2.1, a0.2.2.2.2.2.1)
 else none
 else none
def vu8 := shut wcp
theorem wg0 : vu8 = wcp := vap _
theorem wso (a0 : dTxn) : Par (vu8 a0) := by
  rw [wg0]
  unfold wcp
  exact (vak (vak (vaa _) vae) vae)
def vlc (x : q8T) (k : q8T ⊕ q8T → Option Res) : Option Res :=
 bif (decide (x.2.2.1 < x.2.1)) then
 if 0 ≤ x.2.2.1 ∧ x.2.2.1 < (x.1.length : Int) then
 vu8 (rd (Ty.zero tTxn) x.1 x.2.2.1) (fun y2 =>
 if x.2.2.2.length + [(y2.1, (y2.2.1, (y2.2.2.1, (y2.2.2.2.1, (y2.2.2.2.2.2.2.1, (y2.2.2.2.2.2.2.2, (y2.2.2.2.2.1, y2.2.2.2.2.2.1)))))))].length ≤ VE.maxLen then
 k (.inl (x.1, x.2.1, (IntKind.wrap .i64 (x.2.2.1 + (1 : Int))), (x.2.2.2 ++ [(y2.1, (y2.2.1, (y2.2.2.1, (y2.2.2.2.1, (y2.2.2.2.2.2.2.1, (y2.2.2.2.2.2.2.2, (y2.2.2.2.2.1, y2.2.2.2.2.2.1)))))))])))
 else none)
 else none
 else
 k (.inr (x.1, x.2.1, x.2.2.1, x.2.2.2))
theorem wa9 (x : q8T) : Par (vlc x) := by
  unfold vlc
  exact (vab (vak ((wso _).bind fun y2 => (vak (vaa _) vae)) vae) (vaa _))
def wbc (a0 : (List dTxn)) (k : (List dTxn) → Option Res) : Option Res :=
 vah vlc Fuel (a0, (a0.length : Int), (0 : Int), ([] : List dTxn)) (fun z1 =>
 k z1.2.2.2)
def vq8 := shut wbc
theorem wlj : vq8 = wbc := vap _
theorem wdf (a0 : (List dTxn)) : Par (vq8 a0) := by
  rw [wlj]
  unfold wbc
  exact ((vau wa9 _ _).bind fun z1 => (vaa _))
def weu (a0 : vha) (k : q45T → Option Res) : Option Res :=
 if a0.1.length ≤ VE.maxLen then
 vq8 a0.2.1 (fun y1 =>
 vq8 a0.2.2.1 (fun y2 =>
 k (a0.2.2.2.1, a0.2.2.2.2, a0.1, y1, y2)))
 else none
def v4r := shut weu
theorem wml : v4r = weu := vap _
theorem wtc (a0 : vha) : Par (v4r a0) := by
  rw [wml]
  unfold weu
  exact (vak ((wdf _).bind fun y1 => ((wdf _).bind fun y2 => (vaa _))) vae)
def wah (a0 : va7) (k : q42T → Option Res) : Option Res :=
 v4r a0.1 (fun y1 =>
 vq8 a0.2 (fun y2 =>
 k (y1.1, y1.2.1, y1.2.2.1, y1.2.2.2.1, y1.2.2.2.2, y2)))
def vzd := shut wah
theorem wl9 : vzd = wah := vap _
theorem ws8 (a0 : va7) : Par (vzd a0) := by
  rw [wl9]
  unfold wah
  exact ((wtc _).bind fun y1 => ((wdf _).bind fun y2 => (vaa _)))
def wci (a0 : Int) (a1 : Int) (a2 : Int) (k : Bool → Option Res) : Option Res :=
 bif (decide (a0 ≥ a1)) then
 k (decide (a0 ≤ a2))
 else
 k false
def vde := shut wci
theorem wmm : vde = wci := vap _
theorem von (a0 : Int) (a1 : Int) (a2 : Int) : Par (vde a0 a1 a2) := by
  rw [wmm]
  unfold wci
  exact (vab (vaa _) (vaa _))
def vko (x : (ByteArray × Bool × Int)) (k : (ByteArray × Bool × Int) ⊕ ((ByteArray × Bool × Int) ⊕ (ByteArray × Bool × Int)) → Option Res) : Option Res :=
 bif (decide (x.2.2 < (x.1.size : Int))) then
 if 0 ≤ x.2.2 ∧ x.2.2 < (x.1.size : Int) then
 bif (decide ((bt x.1 x.2.2) < (97 : Int))) then
 k (.inr (.inl (x.1, false, x.2.2)))
 else
 if 0 ≤ x.2.2 ∧ x.2.2 < (x.1.size : Int) then
 bif (decide ((bt x.1 x.2.2) > (122 : Int))) then
 k (.inr (.inl (x.1, false, x.2.2)))
 else
 k (.inl (x.1, x.2.1, (IntKind.wrap .i64 (x.2.2 + (1 : Int)))))
 else none
 else none
 else
 k (.inr (.inr (x.1, x.2.1, x.2.2)))
theorem wbj (x : (ByteArray × Bool × Int)) : Par (vko x) := by
  unfold vko
  exact (vab (vak (vab (vaa _) (vak (vab (vaa _) (vaa _)) vae)) vae) (vaa _))
def wap (a0 : ByteArray) (k : Bool → Option Res) : Option Res :=
 vah vko Fuel (a0, false, (0 : Int)) (Sum.elim (fun z1 =>
 k z1.2.1) (fun z2 =>
 vde (z2.1.size : Int) (1 : Int) (3 : Int) (fun y3 =>
 k y3)))
def vi2 := shut wap
theorem wgb : vi2 = wap := vap _
theorem vz0 (a0 : ByteArray) : Par (vi2 a0) := by
  rw [wgb]
  unfold wap
  exact ((vau wbj _ _).bind2 (fun z1 => (vaa _)) (fun z2 => ((von _ _ _).bind fun y3 => (vaa _))))
def wcs (a0 : ByteArray) (k : Bool → Option Res) : Option Res :=
 k (!(vbd a0 a0))
def vzr := shut wcs
theorem wij : vzr = wcs := vap _
theorem wf8 (a0 : ByteArray) : Par (vzr a0) := by
  rw [wij]
  unfold wcs
  exact (vaa _)
def wal (a0 : ByteArray) (a1 : ByteArray) (k : Int → Option Res) : Option Res :=
 vzr a0 (fun y1 =>
 vzr a1 (fun y2 =>
 bif y1 then
 bif y2 then
 k (0 : Int)
 else
 k (-1 : Int)
 else
 bif y2 then
 k (1 : Int)
 else
 bif (va2 a0 a1) then
 k (-1 : Int)
 else
 bif (!((va2 a0 a1) || (vbd a0 a1))) then
 k (1 : Int)
 else
 k (0 : Int)))
def vz9 := shut wal
theorem wmj : vz9 = wal := vap _
theorem wt8 (a0 : ByteArray) (a1 : ByteArray) : Par (vz9 a0 a1) := by
  rw [wmj]
  unfold wal
  exact ((wf8 _).bind fun y1 => ((wf8 _).bind fun y2 => (vab (vab (vaa _) (vaa _)) (vab (vaa _) (vab (vaa _) (vab (vaa _) (vaa _)))))))
def wc0 (a0 : Int) (k : Bool → Option Res) : Option Res :=
 k (a0 != a0)
def v0a := shut wc0
theorem wlf : v0a = wc0 := vap _
theorem wiz (a0 : Int) : Par (v0a a0) := by
  rw [wlf]
  unfold wc0
  exact (vaa _)
def wdg (a0 : Int) (a1 : Int) (k : Int → Option Res) : Option Res :=
 v0a a0 (fun y1 =>
 v0a a1 (fun y2 =>
 bif y1 then
 bif y2 then
 k (0 : Int)
 else
 k (-1 : Int)
 else
 bif y2 then
 k (1 : Int)
 else
 bif (decide (a0 < a1)) then
 k (-1 : Int)
 else
 bif (decide (a0 > a1)) then
 k (1 : Int)
 else
 k (0 : Int)))
def v0g := shut wdg
theorem wg2 : v0g = wdg := vap _
theorem wsw (a0 : Int) (a1 : Int) : Par (v0g a0 a1) := by
  rw [wg2]
  unfold wdg
  exact ((wiz _).bind fun y1 => ((wiz _).bind fun y2 => (vab (vab (vaa _) (vaa _)) (vab (vaa _) (vab (vaa _) (vab (vaa _) (vaa _)))))))
def waq (a0 : vac) (a1 : vac) (k : Int → Option Res) : Option Res :=
 vz9 a0.1 a1.1 (fun y1 =>
 bif (y1 != (0 : Int)) then
 k y1
 else
 v0g a0.2.2.2 a1.2.2.2 (fun y2 =>
 k y2))
def vqu := shut waq
theorem wgz : vqu = waq := vap _
theorem wit (a0 : vac) (a1 : vac) : Par (vqu a0 a1) := by
  rw [wgz]
  unfold waq
  exact ((wt8 _ _).bind fun y1 => (vab (vaa _) ((wsw _ _).bind fun y2 => (vaa _))))
def vj2 (x : q12T) (k : q12T ⊕ (q12T ⊕ q12T) → Option Res) : Option Res :=
 bif (decide (x.2.2.2.2 < x.2.2.2.1)) then
 if 0 ≤ x.2.2.2.2 ∧ x.2.2.2.2 < (x.2.2.1.length : Int) then
 vi2 ((rd (Ty.zero tVersion) x.2.2.1 x.2.2.2.2).1) (fun y3 =>
 bif (!y3) then
 k (.inr (.inl (x.1, false, x.2.2.1, x.2.2.2.1, x.2.2.2.2)))
 else
 bif (decide (((rd (Ty.zero tVersion) x.2.2.1 x.2.2.2.2).2.1.size : Int) > (12 : Int))) then
 k (.inr (.inl (x.1, false, x.2.2.1, x.2.2.2.1, x.2.2.2.2)))
 else
 bif (rd (Ty.zero tVersion) x.2.2.1 x.2.2.2.2).2.2.1 then
 bif (!(vbd ((rd (Ty.zero tVersion) x.2.2.1 x.2.2.2.2).2.1) (⟨#[]⟩ : ByteArray))) then
 k (.inr (.inl (x.1, false, x.2.2.1, x.2.2.2.1, x.2.2.2.2)))
 else
 vde ((rd (Ty.zero tVersion) x.2.2.1 x.2.2.2.2).2.2.2) (1 : Int) (9999 : Int) (fun y4 =>
 bif (!y4) then
 k (.inr (.inl (x.1, false, x.2.2.1, x.2.2.2.1, x.2.2.2.2)))
 else
 bif (decide (x.2.2.2.2 > (0 : Int))) then
 if 0 ≤ (IntKind.wrap .i64 (x.2.2.2.2 - (1 : Int))) ∧ (IntKind.wrap .i64 (x.2.2.2.2 - (1 : Int))) < (x.1.length : Int) then
 vqu (rd (Ty.zero tVersion) x.1 (IntKind.wrap .i64 (x.2.2.2.2 - (1 : Int)))) (rd (Ty.zero tVersion) x.2.2.1 x.2.2.2.2) (fun y5 =>
 bif (decide (y5 ≥ (0 : Int))) then
 k (.inr (.inl (x.1, false, x.2.2.1, x.2.2.2.1, x.2.2.2.2)))
 else
 k (.inl (x.1, x.2.1, x.2.2.1, x.2.2.2.1, (IntKind.wrap .i64 (x.2.2.2.2 + (1 : Int))))))
 else none
 else
 k (.inl (x.1, x.2.1, x.2.2.1, x.2.2.2.1, (IntKind.wrap .i64 (x.2.2.2.2 + (1 : Int))))))
 else
 vde ((rd (Ty.zero tVersion) x.2.2.1 x.2.2.2.2).2.2.2) (1 : Int) (9999 : Int) (fun y6 =>
 bif (!y6) then
 k (.inr (.inl (x.1, false, x.2.2.1, x.2.2.2.1, x.2.2.2.2)))
 else
 bif (decide (x.2.2.2.2 > (0 : Int))) then
 if 0 ≤ (IntKind.wrap .i64 (x.2.2.2.2 - (1 : Int))) ∧ (IntKind.wrap .i64 (x.2.2.2.2 - (1 : Int))) < (x.1.length : Int) then
 vqu (rd (Ty.zero tVersion) x.1 (IntKind.wrap .i64 (x.2.2.2.2 - (1 : Int)))) (rd (Ty.zero tVersion) x.2.2.1 x.2.2.2.2) (fun y7 =>
 bif (decide (y7 ≥ (0 : Int))) then
 k (.inr (.inl (x.1, false, x.2.2.1, x.2.2.2.1, x.2.2.2.2)))
 else
 k (.inl (x.1, x.2.1, x.2.2.1, x.2.2.2.1, (IntKind.wrap .i64 (x.2.2.2.2 + (1 : Int))))))
 else none
 else
 k (.inl (x.1, x.2.1, x.2.2.1, x.2.2.2.1, (IntKind.wrap .i64 (x.2.2.2.2 + (1 : Int)))))))
 else none
 else
 k (.inr (.inr (x.1, x.2.1, x.2.2.1, x.2.2.2.1, x.2.2.2.2)))
theorem wco (x : q12T) : Par (vj2 x) := by
  unfold vj2
  exact (vab (vak ((vz0 _).bind fun y3 => (vab (vaa _) (vab (vaa _) (vab (vab (vaa _) ((von _ _ _).bind fun y4 => (vab (vaa _) (vab (vak ((wit _ _).bind fun y5 => (vab (vaa _) (vaa _))) vae) (vaa _))))) ((von _ _ _).bind fun y6 => (vab (vaa _) (vab (vak ((wit _ _).bind fun y7 => (vab (vaa _) (vaa _))) vae) (vaa _)))))))) vae) (vaa _))
def wbk (a0 : (List vac)) (k : Bool → Option Res) : Option Res :=
 vah vj2 Fuel (a0, false, a0, (a0.length : Int), (0 : Int)) (Sum.elim (fun z1 =>
 k z1.2.1) (fun z2 =>
 k (decide ((z2.1.length : Int) ≤ (120 : Int)))))
def vtf := shut wbk
theorem wgk : vtf = wbk := vap _
theorem wt1 (a0 : (List vac)) : Par (vtf a0) := by
  rw [wgk]
  unfold wbk
  exact ((vau wco _ _).bind2 (fun z1 => (vaa _)) (fun z2 => (vaa _)))
def wan (a0 : van) (k : Bool → Option Res) : Option Res :=
 vi2 a0.1 (fun y1 =>
 bif y1 then
 vi2 a0.2 (fun y2 =>
 bif y2 then
 k ((va2 a0.1 a0.2) || (vbd a0.1 a0.2))
 else
 k false)
 else
 k false)
def vw9 := shut wan
theorem wip : vw9 = wan := vap _
theorem wsx (a0 : van) : Par (vw9 a0) := by
  rw [wip]
  unfold wan
  exact ((vz0 _).bind fun y1 => (vab ((vz0 _).bind fun y2 => (vab (vaa _) (vaa _))) (vaa _)))
def wdc (a0 : vaj) (k : Bool → Option Res) : Option Res :=
 vi2 a0.1 (fun y1 =>
 bif y1 then
 bif (decide ((a0.2.1.size : Int) ≤ (12 : Int))) then
 bif (!a0.2.2) then
 k true
 else
 k (vbd a0.2.1 (⟨#[]⟩ : ByteArray))
 else
 k false
 else
 k false)
def vwo := shut wdc
theorem wkl : vwo = wdc := vap _
theorem wt0 (a0 : vaj) : Par (vwo a0) := by
  rw [wkl]
  unfold wdc
  exact ((vz0 _).bind fun y1 => (vab (vab (vab (vaa _) (vaa _)) (vaa _)) (vaa _)))
def vjp (x : q17T) (k : q17T ⊕ (q17T ⊕ q17T) → Option Res) : Option Res :=
 bif (decide (x.2.2.2.2 < x.2.2.2.1)) then
 if 0 ≤ x.2.2.2.2 ∧ x.2.2.2.2 < (x.2.2.1.length : Int) then
 vwo (rd (Ty.zero tWrite) x.2.2.1 x.2.2.2.2) (fun y3 =>
 bif (!y3) then
 k (.inr (.inl (x.1, false, x.2.2.1, x.2.2.2.1, x.2.2.2.2)))
 else
 bif (decide (x.2.2.2.2 > (0 : Int))) then
 if 0 ≤ (IntKind.wrap .i64 (x.2.2.2.2 - (1 : Int))) ∧ (IntKind.wrap .i64 (x.2.2.2.2 - (1 : Int))) < (x.1.length : Int) then
 bif (!(va2 ((rd (Ty.zero tWrite) x.1 (IntKind.wrap .i64 (x.2.2.2.2 - (1 : Int)))).1) ((rd (Ty.zero tWrite) x.2.2.1 x.2.2.2.2).1))) then
 k (.inr (.inl (x.1, false, x.2.2.1, x.2.2.2.1, x.2.2.2.2)))
 else
 k (.inl (x.1, x.2.1, x.2.2.1, x.2.2.2.1, (IntKind.wrap .i64 (x.2.2.2.2 + (1 : Int)))))
 else none
 else
 k (.inl (x.1, x.2.1, x.2.2.1, x.2.2.2.1, (IntKind.wrap .i64 (x.2.2.2.2 + (1 : Int))))))
 else none
 else
 k (.inr (.inr (x.1, x.2.1, x.2.2.1, x.2.2.2.1, x.2.2.2.2)))
theorem wd3 (x : q17T) : Par (vjp x) := by
  unfold vjp
  exact (vab (vak ((wt0 _).bind fun y3 => (vab (vaa _) (vab (vak (vab (vaa _) (vaa _)) vae) (vaa _)))) vae) (vaa _))
def wcx (a0 : (List vaj)) (k : Bool → Option Res) : Option Res :=
 vah vjp Fuel (a0, false, a0, (a0.length : Int), (0 : Int)) (Sum.elim (fun z1 =>
 k z1.2.1) (fun z2 =>
 k (decide ((z2.1.length : Int) ≤ (8 : Int)))))
def vtt := shut wcx
theorem wli : vtt = wcx := vap _
theorem wt6 (a0 : (List vaj)) : Par (vtt a0) := by
  rw [wli]
  unfold wcx
  exact ((vau wd3 _ _).bind2 (fun z1 => (vaa _)) (fun z2 => (vaa _)))
def vb3 (x : q36T) (k : q36T → Option Res) : Option Res :=
 bif (x.2.2.1 == (2 : Int)) then
 vi2 x.2.2.2.2.2.2.2.2 (fun y15 =>
 bif y15 then
 k (true, x.2.1, x.2.2.1, x.2.2.2.1, x.2.2.2.2.1, x.2.2.2.2.2.1, x.2.2.2.2.2.2.1, x.2.2.2.2.2.2.2.1, x.2.2.2.2.2.2.2.2)
 else
 bif (x.2.2.1 != (2 : Int)) then
 k ((vbd x.2.2.2.2.2.2.2.2 (⟨#[]⟩ : ByteArray)), x.2.1, x.2.2.1, x.2.2.2.1, x.2.2.2.2.1, x.2.2.2.2.2.1, x.2.2.2.2.2.2.1, x.2.2.2.2.2.2.2.1, x.2.2.2.2.2.2.2.2)
 else
 k (false, x.2.1, x.2.2.1, x.2.2.2.1, x.2.2.2.2.1, x.2.2.2.2.2.1, x.2.2.2.2.2.2.1, x.2.2.2.2.2.2.2.1, x.2.2.2.2.2.2.2.2))
 else
 bif (x.2.2.1 != (2 : Int)) then
 k ((vbd x.2.2.2.2.2.2.2.2 (⟨#[]⟩ : ByteArray)), x.2.1, x.2.2.1, x.2.2.2.1, x.2.2.2.2.1, x.2.2.2.2.2.1, x.2.2.2.2.2.2.1, x.2.2.2.2.2.2.2.1, x.2.2.2.2.2.2.2.2)
 else
 k (false, x.2.1, x.2.2.1, x.2.2.2.1, x.2.2.2.2.1, x.2.2.2.2.2.1, x.2.2.2.2.2.2.1, x.2.2.2.2.2.2.2.1, x.2.2.2.2.2.2.2.2)
theorem vd4 (x : q36T) : Par (vb3 x) := by
  unfold vb3
  exact (vab ((vz0 _).bind fun y15 => (vab (vaa _) (vab (vaa _) (vaa _)))) (vab (vaa _) (vaa _)))
def vcl (x : q36T) (k : q36T → Option Res) : Option Res :=
 bif (x.2.2.1 == (3 : Int)) then
 vde x.2.2.2.2.1 (IntKind.wrap .i64 (x.2.2.2.1 + (1 : Int))) (9999 : Int) (fun y10 =>
 bif (!y10) then
 k (false, x.2.1, x.2.2.1, x.2.2.2.1, x.2.2.2.2.1, x.2.2.2.2.2.1, x.2.2.2.2.2.2.1, x.2.2.2.2.2.2.2.1, x.2.2.2.2.2.2.2.2)
 else
 bif (x.2.2.1 != (3 : Int)) then
 bif (x.2.2.2.2.1 != (0 : Int)) then
 k (false, x.2.1, x.2.2.1, x.2.2.2.1, x.2.2.2.2.1, x.2.2.2.2.2.1, x.2.2.2.2.2.2.1, x.2.2.2.2.2.2.2.1, x.2.2.2.2.2.2.2.2)
 else
 vb3 (x.1, x.2.1, x.2.2.1, x.2.2.2.1, x.2.2.2.2.1, x.2.2.2.2.2.1, x.2.2.2.2.2.2.1, x.2.2.2.2.2.2.2.1, x.2.2.2.2.2.2.2.2) (fun z11 =>
 k (z11.1, z11.2.1, z11.2.2.1, z11.2.2.2.1, z11.2.2.2.2.1, z11.2.2.2.2.2.1, z11.2.2.2.2.2.2.1, z11.2.2.2.2.2.2.2.1, z11.2.2.2.2.2.2.2.2))
 else
 vb3 (x.1, x.2.1, x.2.2.1, x.2.2.2.1, x.2.2.2.2.1, x.2.2.2.2.2.1, x.2.2.2.2.2.2.1, x.2.2.2.2.2.2.2.1, x.2.2.2.2.2.2.2.2) (fun z12 =>
 k (z12.1, z12.2.1, z12.2.2.1, z12.2.2.2.1, z12.2.2.2.2.1, z12.2.2.2.2.2.1, z12.2.2.2.2.2.2.1, z12.2.2.2.2.2.2.2.1, z12.2.2.2.2.2.2.2.2)))
 else
 bif (x.2.2.1 != (3 : Int)) then
 bif (x.2.2.2.2.1 != (0 : Int)) then
 k (false, x.2.1, x.2.2.1, x.2.2.2.1, x.2.2.2.2.1, x.2.2.2.2.2.1, x.2.2.2.2.2.2.1, x.2.2.2.2.2.2.2.1, x.2.2.2.2.2.2.2.2)
 else
 vb3 (x.1, x.2.1, x.2.2.1, x.2.2.2.1, x.2.2.2.2.1, x.2.2.2.2.2.1, x.2.2.2.2.2.2.1, x.2.2.2.2.2.2.2.1, x.2.2.2.2.2.2.2.2) (fun z13 =>
 k (z13.1, z13.2.1, z13.2.2.1, z13.2.2.2.1, z13.2.2.2.2.1, z13.2.2.2.2.2.1, z13.2.2.2.2.2.2.1, z13.2.2.2.2.2.2.2.1, z13.2.2.2.2.2.2.2.2))
 else
 vb3 (x.1, x.2.1, x.2.2.1, x.2.2.2.1, x.2.2.2.2.1, x.2.2.2.2.2.1, x.2.2.2.2.2.2.1, x.2.2.2.2.2.2.2.1, x.2.2.2.2.2.2.2.2) (fun z14 =>
 k (z14.1, z14.2.1, z14.2.2.1, z14.2.2.2.1, z14.2.2.2.2.1, z14.2.2.2.2.2.1, z14.2.2.2.2.2.2.1, z14.2.2.2.2.2.2.2.1, z14.2.2.2.2.2.2.2.2))
theorem viw (x : q36T) : Par (vcl x) := by
  unfold vcl
  exact (vab ((von _ _ _).bind fun y10 => (vab (vaa _) (vab (vab (vaa _) ((vd4 _).bind fun z11 => (vaa _))) ((vd4 _).bind fun z12 => (vaa _))))) (vab (vab (vaa _) ((vd4 _).bind fun z13 => (vaa _))) ((vd4 _).bind fun z14 => (vaa _))))
def vkn (x : q20T) (k : q20T ⊕ (q20T ⊕ q20T) → Option Res) : Option Res :=
 bif (decide (x.2.2.2.1 < x.2.2.1)) then
 if 0 ≤ x.2.2.2.1 ∧ x.2.2.2.1 < (x.2.1.length : Int) then
 vw9 (rd (Ty.zero tRange) x.2.1 x.2.2.2.1) (fun y9 =>
 bif (!y9) then
 k (.inr (.inl (false, x.2.1, x.2.2.1, x.2.2.2.1, x.2.2.2.2.1, x.2.2.2.2.2.1, x.2.2.2.2.2.2.1, x.2.2.2.2.2.2.2.1, x.2.2.2.2.2.2.2.2.1, x.2.2.2.2.2.2.2.2.2.1, x.2.2.2.2.2.2.2.2.2.2.1, x.2.2.2.2.2.2.2.2.2.2.2)))
 else
 k (.inl (x.1, x.2.1, x.2.2.1, (IntKind.wrap .i64 (x.2.2.2.1 + (1 : Int))), x.2.2.2.2.1, x.2.2.2.2.2.1, x.2.2.2.2.2.2.1, x.2.2.2.2.2.2.2.1, x.2.2.2.2.2.2.2.2.1, x.2.2.2.2.2.2.2.2.2.1, x.2.2.2.2.2.2.2.2.2.2.1, x.2.2.2.2.2.2.2.2.2.2.2)))
 else none
 else
 k (.inr (.inr (x.1, x.2.1, x.2.2.1, x.2.2.2.1, x.2.2.2.2.1, x.2.2.2.2.2.1, x.2.2.2.2.2.2.1, x.2.2.2.2.2.2.2.1, x.2.2.2.2.2.2.2.2.1, x.2.2.2.2.2.2.2.2.2.1, x.2.2.2.2.2.2.2.2.2.2.1, x.2.2.2.2.2.2.2.2.2.2.2)))
theorem way (x : q20T) : Par (vkn x) := by
  unfold vkn
  exact (vab (vak ((wsx _).bind fun y9 => (vab (vaa _) (vaa _))) vae) (vaa _))
def wd6 (a0 : dTxn) (k : Bool → Option Res) : Option Res :=
 vah vkn Fuel (false, a0.2.2.2.2.1, (a0.2.2.2.2.1.length : Int), (0 : Int), a0.1, a0.2.1, a0.2.2.1, a0.2.2.2.1, a0.2.2.2.2.1, a0.2.2.2.2.2.1, a0.2.2.2.2.2.2.1, a0.2.2.2.2.2.2.2) (Sum.elim (fun z1 =>
 k z1.1) (fun z2 =>
 vde z2.2.2.2.2.1 (1 : Int) (9999 : Int) (fun y3 =>
 bif (!y3) then
 k false
 else
 vde z2.2.2.2.2.2.1 (1 : Int) (3 : Int) (fun y4 =>
 bif (!y4) then
 k false
 else
 vde z2.2.2.2.2.2.2.1 (0 : Int) (9999 : Int) (fun y5 =>
 bif (!y5) then
 k false
 else
 bif (decide ((z2.2.2.2.2.2.2.2.2.1.length : Int) > (8 : Int))) then
 k false
 else
 vtt z2.2.2.2.2.2.2.2.2.2.1 (fun y6 =>
 bif (!y6) then
 k false
 else
 bif z2.2.2.2.2.2.2.2.2.2.2.1 then
 bif (z2.2.2.2.2.2.1 == (1 : Int)) then
 k false
 else
 vcl (z2.1, z2.2.2.2.2.1, z2.2.2.2.2.2.1, z2.2.2.2.2.2.2.1, z2.2.2.2.2.2.2.2.1, z2.2.2.2.2.2.2.2.2.1, z2.2.2.2.2.2.2.2.2.2.1, z2.2.2.2.2.2.2.2.2.2.2.1, z2.2.2.2.2.2.2.2.2.2.2.2) (fun z7 =>
 k z7.1)
 else
 vcl (z2.1, z2.2.2.2.2.1, z2.2.2.2.2.2.1, z2.2.2.2.2.2.2.1, z2.2.2.2.2.2.2.2.1, z2.2.2.2.2.2.2.2.2.1, z2.2.2.2.2.2.2.2.2.2.1, z2.2.2.2.2.2.2.2.2.2.2.1, z2.2.2.2.2.2.2.2.2.2.2.2) (fun z8 =>
 k z8.1)))))))
def vlf := shut wd6
theorem wf1 : vlf = wd6 := vap _
theorem wbb (a0 : dTxn) : Par (vlf a0) := by
  rw [wf1]
  unfold wd6
  exact ((vau way _ _).bind2 (fun z1 => (vaa _)) (fun z2 => ((von _ _ _).bind fun y3 => (vab (vaa _) ((von _ _ _).bind fun y4 => (vab (vaa _) ((von _ _ _).bind fun y5 => (vab (vaa _) (vab (vaa _) ((wt6 _).bind fun y6 => (vab (vaa _) (vab (vab (vaa _) ((viw _).bind fun z7 => (vaa _))) ((viw _).bind fun z8 => (vaa _))))))))))))))
def wgj (a0 : dTxn) (k : Bool → Option Res) : Option Res :=
 k (a0.2.1 == (3 : Int))
def vvu := shut wgj
theorem wkx : vvu = wgj := vap _
theorem wsp (a0 : dTxn) : Par (vvu a0) := by
  rw [wkx]
  unfold wgj
  exact (vaa _)
def wjj (a0 : dTxn) (k : Bool → Option Res) : Option Res :=
 k (a0.2.1 == (2 : Int))
def vwn := shut wjj
theorem whb : vwn = wjj := vap _
theorem wtb (a0 : dTxn) : Par (vwn a0) := by
  rw [whb]
  unfold wjj
  exact (vaa _)
def wce (a0 : Int) (k : ((List dTxn) ⊕ (List dTxn)) → Option Res) : Option Res :=
 bif (decide (a0 < (0 : Int))) then
 none
 else
 bif (decide ((IntKind.wrap .i64 (a0 - (IntKind.wrap .i64 ((0 : Int) - (0 : Int))))) > (0 : Int))) then
 if 0 ≤ (0 : Int) ∧ (0 : Int) ≤ (0 : Int) ∧ (0 : Int) ≤ 0 then
 if 0 ≤ (IntKind.wrap .i64 (a0 - (IntKind.wrap .i64 ((0 : Int) - (0 : Int))))) ∧ (IntKind.wrap .i64 (a0 - (IntKind.wrap .i64 ((0 : Int) - (0 : Int))))) ≤ (VE.maxLen : Int) then
 if 0 ≤ (0 : Int) ∧ (0 : Int) ≤ ((List.replicate (IntKind.wrap .i64 (a0 - (IntKind.wrap .i64 ((0 : Int) - (0 : Int))))).toNat (Ty.zero tTxn)).length : Int) then
 k (.inl ((List.replicate (IntKind.wrap .i64 (a0 - (IntKind.wrap .i64 ((0 : Int) - (0 : Int))))).toNat (Ty.zero tTxn)).take (0 : Int).toNat))
 else none
 else none
 else none
 else
 k (.inr ([] : List dTxn))
def vu2 := shut wce
theorem wil : vu2 = wce := vap _
theorem wuf (a0 : Int) : Par (vu2 a0) := by
  rw [wil]
  unfold wce
  exact (vab vae (vab (vak (vak (vak (vaa _) vae) vae) vae) (vaa _)))
def vk4 (x : q0T) (k : q0T ⊕ q0T → Option Res) : Option Res :=
 bif (decide (x.2.2.2.2 < x.2.2.2.1)) then
 if 0 ≤ x.2.2.2.2 ∧ x.2.2.2.2 < (x.2.2.1.length : Int) then
 bif (decide ((IntKind.wrap .i64 (x.2.1 + ((rd (Ty.zero (.slice tTxn)) x.2.2.1 x.2.2.2.2).length : Int))) < (0 : Int))) then
 none
 else
 k (.inl (x.1, (IntKind.wrap .i64 (x.2.1 + ((rd (Ty.zero (.slice tTxn)) x.2.2.1 x.2.2.2.2).length : Int))), x.2.2.1, x.2.2.2.1, (IntKind.wrap .i64 (x.2.2.2.2 + (1 : Int)))))
 else none
 else
 k (.inr (x.1, x.2.1, x.2.2.1, x.2.2.2.1, x.2.2.2.2))
theorem wdl (x : q0T) : Par (vk4 x) := by
  unfold vk4
  exact (vab (vak (vab vae (vaa _)) vae) (vaa _))
def ved (x : (q1T ⊕ q1T)) (k : (q1T ⊕ q1T) ⊕ (q1T ⊕ q1T) → Option Res) : Option Res :=
 (Sum.elim (fun x =>
 bif (decide (x.2.2.1 < x.2.1)) then
 if 0 ≤ x.2.2.1 ∧ x.2.2.1 < (x.1.length : Int) then
 if x.2.2.2.length + (rd (Ty.zero (.slice tTxn)) x.1 x.2.2.1).length ≤ VE.maxLen then
 k (.inl (.inl (x.1, x.2.1, (IntKind.wrap .i64 (x.2.2.1 + (1 : Int))), (x.2.2.2 ++ (rd (Ty.zero (.slice tTxn)) x.1 x.2.2.1)))))
 else none
 else none
 else
 k (.inr (.inl (x.1, x.2.1, x.2.2.1, x.2.2.2)))) (fun x =>
 bif (decide (x.2.2.1 < x.2.1)) then
 if 0 ≤ x.2.2.1 ∧ x.2.2.1 < (x.1.length : Int) then
 if x.2.2.2.length + (rd (Ty.zero (.slice tTxn)) x.1 x.2.2.1).length ≤ VE.maxLen then
 k (.inl (.inl (x.1, x.2.1, (IntKind.wrap .i64 (x.2.2.1 + (1 : Int))), (x.2.2.2 ++ (rd (Ty.zero (.slice tTxn)) x.1 x.2.2.1)))))
 else none
 else none
 else
 k (.inr (.inr (x.1, x.2.1, x.2.2.1, x.2.2.2))))) x
theorem vuc (x : (q1T ⊕ q1T)) : Par (ved x) := by
  unfold ved
  rcases x with x | x
  · simp only [Sum.elim_inl]
    exact (vab (vak (vak (vaa _) vae) vae) (vaa _))
  · simp only [Sum.elim_inr]
    exact (vab (vak (vak (vaa _) vae) vae) (vaa _))
def wds (a0 : (List (List dTxn))) (k : ((List dTxn) ⊕ (List dTxn)) → Option Res) : Option Res :=
 vah vk4 Fuel (a0, (0 : Int), a0, (a0.length : Int), (0 : Int)) (fun z1 =>
 vu2 z1.2.1 (Sum.elim (fun y2 =>
 vah ved Fuel (.inl (z1.1, (z1.1.length : Int), (0 : Int), y2)) (Sum.elim (fun z3 =>
 k (.inl z3.2.2.2)) (fun z4 =>
 k (.inr z4.2.2.2)))) (fun y5 =>
 vah ved Fuel (.inr (z1.1, (z1.1.length : Int), (0 : Int), y5)) (Sum.elim (fun z6 =>
 k (.inl z6.2.2.2)) (fun z7 =>
 k (.inr z7.2.2.2))))))
def vli := shut wds
theorem wgr : vli = wds := vap _
theorem wh4 (a0 : (List (List dTxn))) : Par (vli a0) := by
  rw [wgr]
  unfold wds
  exact ((vau wdl _ _).bind fun z1 => ((wuf _).bind2 (fun y2 => ((vau vuc _ _).bind2 (fun z3 => (vaa _)) (fun z4 => (vaa _)))) (fun y5 => ((vau vuc _ _).bind2 (fun z6 => (vaa _)) (fun z7 => (vaa _))))))
def wkt (a0 : dTxn) (a1 : Int) (a2 : Int) (a3 : Int) (a4 : Int) (a5 : (List van)) (a6 : (List vaj)) (a7 : Bool) (a8 : ByteArray) (k : q36T → Option Res) : Option Res :=
 k ((a0.1 == a1), a1, a2, a3, a4, a5, a6, a7, a8)
def vux := shut wkt
theorem wl3 : vux = wkt := vap _
theorem wtt (a0 : dTxn) (a1 : Int) (a2 : Int) (a3 : Int) (a4 : Int) (a5 : (List van)) (a6 : (List vaj)) (a7 : Bool) (a8 : ByteArray) : Par (vux a0 a1 a2 a3 a4 a5 a6 a7 a8) := by
  rw [wl3]
  unfold wkt
  exact (vaa _)
def vjn (x : q9T) (k : q9T ⊕ (q9T ⊕ q9T) → Option Res) : Option Res :=
 bif (decide (x.2.2.2.1 < x.2.2.1)) then
 if 0 ≤ x.2.2.2.1 ∧ x.2.2.2.1 < (x.1.length : Int) then
 vux (rd (Ty.zero tTxn) x.1 x.2.2.2.1) x.2.2.2.2.1 x.2.2.2.2.2.1 x.2.2.2.2.2.2.1 x.2.2.2.2.2.2.2.1 x.2.2.2.2.2.2.2.2.1 x.2.2.2.2.2.2.2.2.2.1 x.2.2.2.2.2.2.2.2.2.2.1 x.2.2.2.2.2.2.2.2.2.2.2 (fun y3 =>
 bif y3.1 then
 k (.inr (.inl (x.1, x.2.2.2.1, x.2.2.1, x.2.2.2.1, y3.2.1, y3.2.2.1, y3.2.2.2.1, y3.2.2.2.2.1, y3.2.2.2.2.2.1, y3.2.2.2.2.2.2.1, y3.2.2.2.2.2.2.2.1, y3.2.2.2.2.2.2.2.2)))
 else
 k (.inl (x.1, x.2.1, x.2.2.1, (IntKind.wrap .i64 (x.2.2.2.1 + (1 : Int))), y3.2.1, y3.2.2.1, y3.2.2.2.1, y3.2.2.2.2.1, y3.2.2.2.2.2.1, y3.2.2.2.2.2.2.1, y3.2.2.2.2.2.2.2.1, y3.2.2.2.2.2.2.2.2)))
 else none
 else
 k (.inr (.inr (x.1, x.2.1, x.2.2.1, x.2.2.2.1, x.2.2.2.2.1, x.2.2.2.2.2.1, x.2.2.2.2.2.2.1, x.2.2.2.2.2.2.2.1, x.2.2.2.2.2.2.2.2.1, x.2.2.2.2.2.2.2.2.2.1, x.2.2.2.2.2.2.2.2.2.2.1, x.2.2.2.2.2.2.2.2.2.2.2)))
theorem wcr (x : q9T) : Par (vjn x) := by
  unfold vjn
  exact (vab (vak ((wtt _ _ _ _ _ _ _ _ _).bind fun y3 => (vab (vaa _) (vaa _))) vae) (vaa _))
def wc5 (a0 : (List dTxn)) (a1 : Int) (a2 : Int) (a3 : Int) (a4 : Int) (a5 : (List van)) (a6 : (List vaj)) (a7 : Bool) (a8 : ByteArray) (k : q48T → Option Res) : Option Res :=
 vah vjn Fuel (a0, (0 : Int), (a0.length : Int), (0 : Int), a1, a2, a3, a4, a5, a6, a7, a8) (Sum.elim (fun z1 =>
 k (z1.2.1, z1.2.2.2.2.1, z1.2.2.2.2.2.1, z1.2.2.2.2.2.2.1, z1.2.2.2.2.2.2.2.1, z1.2.2.2.2.2.2.2.2.1, z1.2.2.2.2.2.2.2.2.2.1, z1.2.2.2.2.2.2.2.2.2.2.1, z1.2.2.2.2.2.2.2.2.2.2.2)) (fun z2 =>
 k ((-1 : Int), z2.2.2.2.2.1, z2.2.2.2.2.2.1, z2.2.2.2.2.2.2.1, z2.2.2.2.2.2.2.2.1, z2.2.2.2.2.2.2.2.2.1, z2.2.2.2.2.2.2.2.2.2.1, z2.2.2.2.2.2.2.2.2.2.2.1, z2.2.2.2.2.2.2.2.2.2.2.2)))
def vz1 := shut wc5
theorem wib : vz1 = wc5 := vap _
theorem wt2 (a0 : (List dTxn)) (a1 : Int) (a2 : Int) (a3 : Int) (a4 : Int) (a5 : (List van)) (a6 : (List vaj)) (a7 : Bool) (a8 : ByteArray) : Par (vz1 a0 a1 a2 a3 a4 a5 a6 a7 a8) := by
  rw [wib]
  unfold wc5
  exact ((vau wcr _ _).bind2 (fun z1 => (vaa _)) (fun z2 => (vaa _)))
def war (a0 : (List dTxn)) (a1 : Int) (a2 : Int) (a3 : Int) (a4 : Int) (a5 : (List van)) (a6 : (List vaj)) (a7 : Bool) (a8 : ByteArray) (k : q36T → Option Res) : Option Res :=
 vz1 a0 a1 a2 a3 a4 a5 a6 a7 a8 (fun y1 =>
 k ((decide (y1.1 ≥ (0 : Int))), y1.2.1, y1.2.2.1, y1.2.2.2.1, y1.2.2.2.2.1, y1.2.2.2.2.2.1, y1.2.2.2.2.2.2.1, y1.2.2.2.2.2.2.2.1, y1.2.2.2.2.2.2.2.2))
def v5l := shut war
theorem wh7 : v5l = war := vap _
theorem ws9 (a0 : (List dTxn)) (a1 : Int) (a2 : Int) (a3 : Int) (a4 : Int) (a5 : (List van)) (a6 : (List vaj)) (a7 : Bool) (a8 : ByteArray) : Par (v5l a0 a1 a2 a3 a4 a5 a6 a7 a8) := by
  rw [wh7]
  unfold war
  exact ((wt2 _ _ _ _ _ _ _ _ _).bind fun y1 => (vaa _))
def wed (a0 : (List dTxn)) (a1 : Int) (a2 : Int) (a3 : Int) (a4 : Int) (a5 : (List van)) (a6 : (List vaj)) (a7 : Bool) (a8 : ByteArray) (k : q36T → Option Res) : Option Res :=
 v5l a0 a1 a2 a3 a4 a5 a6 a7 a8 (fun y1 =>
 k (y1.1, y1.2.1, y1.2.2.1, y1.2.2.2.1, y1.2.2.2.2.1, y1.2.2.2.2.2.1, y1.2.2.2.2.2.2.1, y1.2.2.2.2.2.2.2.1, y1.2.2.2.2.2.2.2.2))
def vu7 := shut wed
theorem whf : vu7 = wed := vap _
theorem wtx (a0 : (List dTxn)) (a1 : Int) (a2 : Int) (a3 : Int) (a4 : Int) (a5 : (List van)) (a6 : (List vaj)) (a7 : Bool) (a8 : ByteArray) : Par (vu7 a0 a1 a2 a3 a4 a5 a6 a7 a8) := by
  rw [whf]
  unfold wed
  exact ((ws9 _ _ _ _ _ _ _ _ _).bind fun y1 => (vaa _))
def vjq (x : q7T) (k : q7T ⊕ (q7T ⊕ q7T) → Option Res) : Option Res :=
 bif (decide (x.2.2.2.2.2 < x.2.2.2.2.1)) then
 if 0 ≤ x.2.2.2.2.2 ∧ x.2.2.2.2.2 < (x.2.2.2.1.length : Int) then
 bif (decide ((rd (Ty.zero tTxn) x.2.2.2.1 x.2.2.2.2.2).1 ≥ x.2.1)) then
 k (.inr (.inl (x.1, x.2.1, false, x.2.2.2.1, x.2.2.2.2.1, x.2.2.2.2.2)))
 else
 if 0 ≤ (0 : Int) ∧ (0 : Int) ≤ x.2.2.2.2.2 ∧ x.2.2.2.2.2 ≤ (x.1.length : Int) then
 vu7 ((x.1.take x.2.2.2.2.2.toNat).drop (0 : Int).toNat) ((rd (Ty.zero tTxn) x.2.2.2.1 x.2.2.2.2.2).1) ((rd (Ty.zero tTxn) x.2.2.2.1 x.2.2.2.2.2).2.1) ((rd (Ty.zero tTxn) x.2.2.2.1 x.2.2.2.2.2).2.2.1) ((rd (Ty.zero tTxn) x.2.2.2.1 x.2.2.2.2.2).2.2.2.1) ((rd (Ty.zero tTxn) x.2.2.2.1 x.2.2.2.2.2).2.2.2.2.1) ((rd (Ty.zero tTxn) x.2.2.2.1 x.2.2.2.2.2).2.2.2.2.2.1) ((rd (Ty.zero tTxn) x.2.2.2.1 x.2.2.2.2.2).2.2.2.2.2.2.1) ((rd (Ty.zero tTxn) x.2.2.2.1 x.2.2.2.2.2).2.2.2.2.2.2.2) (fun y3 =>
 bif y3.1 then
 k (.inr (.inl (x.1, x.2.1, false, x.2.2.2.1, x.2.2.2.2.1, x.2.2.2.2.2)))
 else
 k (.inl (x.1, x.2.1, x.2.2.1, x.2.2.2.1, x.2.2.2.2.1, (IntKind.wrap .i64 (x.2.2.2.2.2 + (1 : Int))))))
 else none
 else none
 else
 k (.inr (.inr (x.1, x.2.1, x.2.2.1, x.2.2.2.1, x.2.2.2.2.1, x.2.2.2.2.2)))
theorem wen (x : q7T) : Par (vjq x) := by
  unfold vjq
  exact (vab (vak (vab (vaa _) (vak ((wtx _ _ _ _ _ _ _ _ _).bind fun y3 => (vab (vaa _) (vaa _))) vae)) vae) (vaa _))
def wb3 (a0 : (List dTxn)) (a1 : Int) (k : Bool → Option Res) : Option Res :=
 vah vjq Fuel (a0, a1, false, a0, (a0.length : Int), (0 : Int)) (Sum.elim (fun z1 =>
 k z1.2.2.1) (fun _ =>
 k true))
def vh6 := shut wb3
theorem wk6 : vh6 = wb3 := vap _
theorem v5p (a0 : (List dTxn)) (a1 : Int) : Par (vh6 a0 a1) := by
  rw [wk6]
  unfold wb3
  exact ((vau wen _ _).bind2 (fun z1 => (vaa _)) (fun z2 => (vaa _)))
def vj8 (x : q26T) (k : q26T ⊕ (q26T ⊕ q26T) → Option Res) : Option Res :=
 bif (decide (x.2.2.2.1 < x.2.2.1)) then
 if 0 ≤ x.2.2.2.1 ∧ x.2.2.2.1 < (x.2.1.length : Int) then
 bif (decide ((rd (Ty.zero tVersion) x.2.1 x.2.2.2.1).2.2.2 > x.2.2.2.2.2.2.2.1)) then
 k (.inr (.inl (false, x.2.1, x.2.2.1, x.2.2.2.1, x.2.2.2.2.1, x.2.2.2.2.2.1, x.2.2.2.2.2.2.1, x.2.2.2.2.2.2.2.1, x.2.2.2.2.2.2.2.2)))
 else
 k (.inl (x.1, x.2.1, x.2.2.1, (IntKind.wrap .i64 (x.2.2.2.1 + (1 : Int))), x.2.2.2.2.1, x.2.2.2.2.2.1, x.2.2.2.2.2.2.1, x.2.2.2.2.2.2.2.1, x.2.2.2.2.2.2.2.2))
 else none
 else
 k (.inr (.inr (x.1, x.2.1, x.2.2.1, x.2.2.2.1, x.2.2.2.2.1, x.2.2.2.2.2.1, x.2.2.2.2.2.2.1, x.2.2.2.2.2.2.2.1, x.2.2.2.2.2.2.2.2)))
theorem v99 (x : q26T) : Par (vj8 x) := by
  unfold vj8
  exact (vab (vak (vab (vaa _) (vaa _)) vae) (vaa _))
def vjx (x : q22T) (k : q22T ⊕ (q22T ⊕ q22T) → Option Res) : Option Res :=
 bif (decide (x.2.2.2.1 < x.2.2.1)) then
 if 0 ≤ x.2.2.2.1 ∧ x.2.2.2.1 < (x.2.1.length : Int) then
 vlf (rd (Ty.zero tTxn) x.2.1 x.2.2.2.1) (fun y5 =>
 bif (!y5) then
 k (.inr (.inl (false, x.2.1, x.2.2.1, x.2.2.2.1, x.2.2.2.2.1, x.2.2.2.2.2.1, x.2.2.2.2.2.2.1, x.2.2.2.2.2.2.2.1, x.2.2.2.2.2.2.2.2)))
 else
 vvu (rd (Ty.zero tTxn) x.2.1 x.2.2.2.1) (fun y6 =>
 bif (!y6) then
 k (.inr (.inl (false, x.2.1, x.2.2.1, x.2.2.2.1, x.2.2.2.2.1, x.2.2.2.2.2.1, x.2.2.2.2.2.2.1, x.2.2.2.2.2.2.2.1, x.2.2.2.2.2.2.2.2)))
 else
 bif (decide ((rd (Ty.zero tTxn) x.2.1 x.2.2.2.1).2.2.2.1 > x.2.2.2.2.2.2.2.1)) then
 k (.inr (.inl (false, x.2.1, x.2.2.1, x.2.2.2.1, x.2.2.2.2.1, x.2.2.2.2.2.1, x.2.2.2.2.2.2.1, x.2.2.2.2.2.2.2.1, x.2.2.2.2.2.2.2.2)))
 else
 bif (decide (x.2.2.2.1 > (0 : Int))) then
 if 0 ≤ (IntKind.wrap .i64 (x.2.2.2.1 - (1 : Int))) ∧ (IntKind.wrap .i64 (x.2.2.2.1 - (1 : Int))) < (x.2.2.2.2.2.1.length : Int) then
 bif (decide ((rd (Ty.zero tTxn) x.2.2.2.2.2.1 (IntKind.wrap .i64 (x.2.2.2.1 - (1 : Int)))).2.2.2.1 ≥ (rd (Ty.zero tTxn) x.2.1 x.2.2.2.1).2.2.2.1)) then
 k (.inr (.inl (false, x.2.1, x.2.2.1, x.2.2.2.1, x.2.2.2.2.1, x.2.2.2.2.2.1, x.2.2.2.2.2.2.1, x.2.2.2.2.2.2.2.1, x.2.2.2.2.2.2.2.2)))
 else
 k (.inl (x.1, x.2.1, x.2.2.1, (IntKind.wrap .i64 (x.2.2.2.1 + (1 : Int))), x.2.2.2.2.1, x.2.2.2.2.2.1, x.2.2.2.2.2.2.1, x.2.2.2.2.2.2.2.1, x.2.2.2.2.2.2.2.2))
 else none
 else
 k (.inl (x.1, x.2.1, x.2.2.1, (IntKind.wrap .i64 (x.2.2.2.1 + (1 : Int))), x.2.2.2.2.1, x.2.2.2.2.2.1, x.2.2.2.2.2.2.1, x.2.2.2.2.2.2.2.1, x.2.2.2.2.2.2.2.2))))
 else none
 else
 k (.inr (.inr (x.1, x.2.1, x.2.2.1, x.2.2.2.1, x.2.2.2.2.1, x.2.2.2.2.2.1, x.2.2.2.2.2.2.1, x.2.2.2.2.2.2.2.1, x.2.2.2.2.2.2.2.2)))
theorem wem (x : q22T) : Par (vjx x) := by
  unfold vjx
  exact (vab (vak ((wbb _).bind fun y5 => (vab (vaa _) ((wsp _).bind fun y6 => (vab (vaa _) (vab (vaa _) (vab (vak (vab (vaa _) (vaa _)) vae) (vaa _))))))) vae) (vaa _))
def vku (x : q22T) (k : q22T ⊕ (q22T ⊕ q22T) → Option Res) : Option Res :=
 bif (decide (x.2.2.2.1 < x.2.2.1)) then
 if 0 ≤ x.2.2.2.1 ∧ x.2.2.2.1 < (x.2.1.length : Int) then
 vlf (rd (Ty.zero tTxn) x.2.1 x.2.2.2.1) (fun y7 =>
 bif (!y7) then
 k (.inr (.inl (false, x.2.1, x.2.2.1, x.2.2.2.1, x.2.2.2.2.1, x.2.2.2.2.2.1, x.2.2.2.2.2.2.1, x.2.2.2.2.2.2.2.1, x.2.2.2.2.2.2.2.2)))
 else
 vwn (rd (Ty.zero tTxn) x.2.1 x.2.2.2.1) (fun y8 =>
 bif (!y8) then
 k (.inr (.inl (false, x.2.1, x.2.2.1, x.2.2.2.1, x.2.2.2.2.1, x.2.2.2.2.2.1, x.2.2.2.2.2.2.1, x.2.2.2.2.2.2.2.1, x.2.2.2.2.2.2.2.2)))
 else
 bif (decide ((rd (Ty.zero tTxn) x.2.1 x.2.2.2.1).2.2.1 > x.2.2.2.2.2.2.2.1)) then
 k (.inr (.inl (false, x.2.1, x.2.2.1, x.2.2.2.1, x.2.2.2.2.1, x.2.2.2.2.2.1, x.2.2.2.2.2.2.1, x.2.2.2.2.2.2.2.1, x.2.2.2.2.2.2.2.2)))
 else
 bif (decide (x.2.2.2.1 > (0 : Int))) then
 if 0 ≤ (IntKind.wrap .i64 (x.2.2.2.1 - (1 : Int))) ∧ (IntKind.wrap .i64 (x.2.2.2.1 - (1 : Int))) < (x.2.2.2.2.2.2.1.length : Int) then
 bif (!(va2 ((rd (Ty.zero tTxn) x.2.2.2.2.2.2.1 (IntKind.wrap .i64 (x.2.2.2.1 - (1 : Int)))).2.2.2.2.2.2.2) ((rd (Ty.zero tTxn) x.2.1 x.2.2.2.1).2.2.2.2.2.2.2))) then
 k (.inr (.inl (false, x.2.1, x.2.2.1, x.2.2.2.1, x.2.2.2.2.1, x.2.2.2.2.2.1, x.2.2.2.2.2.2.1, x.2.2.2.2.2.2.2.1, x.2.2.2.2.2.2.2.2)))
 else
 k (.inl (x.1, x.2.1, x.2.2.1, (IntKind.wrap .i64 (x.2.2.2.1 + (1 : Int))), x.2.2.2.2.1, x.2.2.2.2.2.1, x.2.2.2.2.2.2.1, x.2.2.2.2.2.2.2.1, x.2.2.2.2.2.2.2.2))
 else none
 else
 k (.inl (x.1, x.2.1, x.2.2.1, (IntKind.wrap .i64 (x.2.2.2.1 + (1 : Int))), x.2.2.2.2.1, x.2.2.2.2.2.1, x.2.2.2.2.2.2.1, x.2.2.2.2.2.2.2.1, x.2.2.2.2.2.2.2.2))))
 else none
 else
 k (.inr (.inr (x.1, x.2.1, x.2.2.1, x.2.2.2.1, x.2.2.2.2.1, x.2.2.2.2.2.1, x.2.2.2.2.2.2.1, x.2.2.2.2.2.2.2.1, x.2.2.2.2.2.2.2.2)))
theorem wdi (x : q22T) : Par (vku x) := by
  unfold vku
  exact (vab (vak ((wbb _).bind fun y7 => (vab (vaa _) ((wtb _).bind fun y8 => (vab (vaa _) (vab (vaa _) (vab (vak (vab (vaa _) (vaa _)) vae) (vaa _))))))) vae) (vaa _))
def vcz (x : q25T) (k : q25T → Option Res) : Option Res :=
 vah vj8 Fuel (x.1, x.2.1, (x.2.1.length : Int), (0 : Int), x.2.1, x.2.2.1, x.2.2.2.1, x.2.2.2.2.1, x.2.2.2.2.2) (Sum.elim (fun z9 =>
 k (z9.1, z9.2.2.2.2.1, z9.2.2.2.2.2.1, z9.2.2.2.2.2.2.1, z9.2.2.2.2.2.2.2.1, z9.2.2.2.2.2.2.2.2)) (fun z10 =>
 vah vjx Fuel (z10.1, z10.2.2.2.2.2.1, (z10.2.2.2.2.2.1.length : Int), (0 : Int), z10.2.2.2.2.1, z10.2.2.2.2.2.1, z10.2.2.2.2.2.2.1, z10.2.2.2.2.2.2.2.1, z10.2.2.2.2.2.2.2.2) (Sum.elim (fun z11 =>
 k (z11.1, z11.2.2.2.2.1, z11.2.2.2.2.2.1, z11.2.2.2.2.2.2.1, z11.2.2.2.2.2.2.2.1, z11.2.2.2.2.2.2.2.2)) (fun z12 =>
 vah vku Fuel (z12.1, z12.2.2.2.2.2.2.1, (z12.2.2.2.2.2.2.1.length : Int), (0 : Int), z12.2.2.2.2.1, z12.2.2.2.2.2.1, z12.2.2.2.2.2.2.1, z12.2.2.2.2.2.2.2.1, z12.2.2.2.2.2.2.2.2) (Sum.elim (fun z13 =>
 k (z13.1, z13.2.2.2.2.1, z13.2.2.2.2.2.1, z13.2.2.2.2.2.2.1, z13.2.2.2.2.2.2.2.1, z13.2.2.2.2.2.2.2.2)) (fun z14 =>
 vli [z14.2.2.2.2.2.1, z14.2.2.2.2.2.2.1] (Sum.elim (fun y15 =>
 vh6 y15 z14.2.2.2.2.2.2.2.2 (fun y16 =>
 k (y16, z14.2.2.2.2.1, z14.2.2.2.2.2.1, z14.2.2.2.2.2.2.1, z14.2.2.2.2.2.2.2.1, z14.2.2.2.2.2.2.2.2))) (fun y17 =>
 vh6 y17 z14.2.2.2.2.2.2.2.2 (fun y18 =>
 k (y18, z14.2.2.2.2.1, z14.2.2.2.2.2.1, z14.2.2.2.2.2.2.1, z14.2.2.2.2.2.2.2.1, z14.2.2.2.2.2.2.2.2))))))))))
theorem vno (x : q25T) : Par (vcz x) := by
  unfold vcz
  exact ((vau v99 _ _).bind2 (fun z9 => (vaa _)) (fun z10 => ((vau wem _ _).bind2 (fun z11 => (vaa _)) (fun z12 => ((vau wdi _ _).bind2 (fun z13 => (vaa _)) (fun z14 => ((wh4 _).bind2 (fun y15 => ((v5p _ _).bind fun y16 => (vaa _))) (fun y17 => ((v5p _ _).bind fun y18 => (vaa _))))))))))
def wbw (a0 : vha) (k : Bool → Option Res) : Option Res :=
 vtf a0.1 (fun y1 =>
 bif (!y1) then
 k false
 else
 bif (decide ((a0.2.1.length : Int) > (12 : Int))) then
 k false
 else
 bif (decide ((a0.2.2.1.length : Int) > (3 : Int))) then
 k false
 else
 vde a0.2.2.2.1 (0 : Int) (9999 : Int) (fun y2 =>
 bif (!y2) then
 k false
 else
 vde a0.2.2.2.2 (1 : Int) (9999 : Int) (fun y3 =>
 bif (!y3) then
 k false
 else
 vcz (false, a0.1, a0.2.1, a0.2.2.1, a0.2.2.2.1, a0.2.2.2.2) (fun z4 =>
 k z4.1))))
def vte := shut wbw
theorem wg5 : vte = wbw := vap _
theorem wti (a0 : vha) : Par (vte a0) := by
  rw [wg5]
  unfold wbw
  exact ((wt1 _).bind fun y1 => (vab (vaa _) (vab (vaa _) (vab (vaa _) ((von _ _ _).bind fun y2 => (vab (vaa _) ((von _ _ _).bind fun y3 => (vab (vaa _) ((vno _).bind fun z4 => (vaa _))))))))))
def vkh (x : q21T) (k : q21T ⊕ (q21T ⊕ q21T) → Option Res) : Option Res :=
 bif (decide (x.2.2.2.1 < x.2.2.1)) then
 if 0 ≤ x.2.2.2.1 ∧ x.2.2.2.1 < (x.2.1.length : Int) then
 vlf (rd (Ty.zero tTxn) x.2.1 x.2.2.2.1) (fun y8 =>
 bif (!y8) then
 k (.inr (.inl (false, x.2.1, x.2.2.1, x.2.2.2.1, x.2.2.2.2.1, x.2.2.2.2.2.1, x.2.2.2.2.2.2.1, x.2.2.2.2.2.2.2.1, x.2.2.2.2.2.2.2.2.1, x.2.2.2.2.2.2.2.2.2)))
 else
 bif ((rd (Ty.zero tTxn) x.2.1 x.2.2.2.1).2.1 != (1 : Int)) then
 k (.inr (.inl (false, x.2.1, x.2.2.1, x.2.2.2.1, x.2.2.2.2.1, x.2.2.2.2.2.1, x.2.2.2.2.2.2.1, x.2.2.2.2.2.2.2.1, x.2.2.2.2.2.2.2.2.1, x.2.2.2.2.2.2.2.2.2)))
 else
 bif (decide ((rd (Ty.zero tTxn) x.2.1 x.2.2.2.1).2.2.1 > x.2.2.2.2.2.2.2.1)) then
 k (.inr (.inl (false, x.2.1, x.2.2.1, x.2.2.2.1, x.2.2.2.2.1, x.2.2.2.2.2.1, x.2.2.2.2.2.2.1, x.2.2.2.2.2.2.2.1, x.2.2.2.2.2.2.2.2.1, x.2.2.2.2.2.2.2.2.2)))
 else
 bif (decide (x.2.2.2.1 > (0 : Int))) then
 if 0 ≤ (IntKind.wrap .i64 (x.2.2.2.1 - (1 : Int))) ∧ (IntKind.wrap .i64 (x.2.2.2.1 - (1 : Int))) < (x.2.2.2.2.2.2.2.2.2.length : Int) then
 bif (decide ((rd (Ty.zero tTxn) x.2.2.2.2.2.2.2.2.2 (IntKind.wrap .i64 (x.2.2.2.1 - (1 : Int)))).1 ≥ (rd (Ty.zero tTxn) x.2.1 x.2.2.2.1).1)) then
 k (.inr (.inl (false, x.2.1, x.2.2.1, x.2.2.2.1, x.2.2.2.2.1, x.2.2.2.2.2.1, x.2.2.2.2.2.2.1, x.2.2.2.2.2.2.2.1, x.2.2.2.2.2.2.2.2.1, x.2.2.2.2.2.2.2.2.2)))
 else
 k (.inl (x.1, x.2.1, x.2.2.1, (IntKind.wrap .i64 (x.2.2.2.1 + (1 : Int))), x.2.2.2.2.1, x.2.2.2.2.2.1, x.2.2.2.2.2.2.1, x.2.2.2.2.2.2.2.1, x.2.2.2.2.2.2.2.2.1, x.2.2.2.2.2.2.2.2.2))
 else none
 else
 k (.inl (x.1, x.2.1, x.2.2.1, (IntKind.wrap .i64 (x.2.2.2.1 + (1 : Int))), x.2.2.2.2.1, x.2.2.2.2.2.1, x.2.2.2.2.2.2.1, x.2.2.2.2.2.2.2.1, x.2.2.2.2.2.2.2.2.1, x.2.2.2.2.2.2.2.2.2)))
 else none
 else
 k (.inr (.inr (x.1, x.2.1, x.2.2.1, x.2.2.2.1, x.2.2.2.2.1, x.2.2.2.2.2.1, x.2.2.2.2.2.2.1, x.2.2.2.2.2.2.2.1, x.2.2.2.2.2.2.2.2.1, x.2.2.2.2.2.2.2.2.2)))
theorem waw (x : q21T) : Par (vkh x) := by
  unfold vkh
  exact (vab (vak ((wbb _).bind fun y8 => (vab (vaa _) (vab (vaa _) (vab (vaa _) (vab (vak (vab (vaa _) (vaa _)) vae) (vaa _)))))) vae) (vaa _))
def vcf (x : q24T) (k : q24T → Option Res) : Option Res :=
 vah vkh Fuel (x.1, x.2.2.2.2.2.2, (x.2.2.2.2.2.2.length : Int), (0 : Int), x.2.1, x.2.2.1, x.2.2.2.1, x.2.2.2.2.1, x.2.2.2.2.2.1, x.2.2.2.2.2.2) (Sum.elim (fun z9 =>
 k (z9.1, z9.2.2.2.2.1, z9.2.2.2.2.2.1, z9.2.2.2.2.2.2.1, z9.2.2.2.2.2.2.2.1, z9.2.2.2.2.2.2.2.2.1, z9.2.2.2.2.2.2.2.2.2)) (fun z10 =>
 k (true, z10.2.2.2.2.1, z10.2.2.2.2.2.1, z10.2.2.2.2.2.2.1, z10.2.2.2.2.2.2.2.1, z10.2.2.2.2.2.2.2.2.1, z10.2.2.2.2.2.2.2.2.2)))
theorem vig (x : q24T) : Par (vcf x) := by
  unfold vcf
  exact ((vau waw _ _).bind2 (fun z9 => (vaa _)) (fun z10 => (vaa _)))
def wch (a0 : va7) (k : Bool → Option Res) : Option Res :=
 vte a0.1 (fun y1 =>
 bif (!y1) then
 k false
 else
 bif (decide ((a0.2.length : Int) > (4 : Int))) then
 k false
 else
 vli [a0.1.2.1, a0.1.2.2.1, a0.2] (Sum.elim (fun y2 =>
 vh6 y2 a0.1.2.2.2.2 (fun y3 =>
 bif (!y3) then
 k false
 else
 vcf (false, a0.1.1, a0.1.2.1, a0.1.2.2.1, a0.1.2.2.2.1, a0.1.2.2.2.2, a0.2) (fun z4 =>
 k z4.1))) (fun y5 =>
 vh6 y5 a0.1.2.2.2.2 (fun y6 =>
 bif (!y6) then
 k false
 else
 vcf (false, a0.1.1, a0.1.2.1, a0.1.2.2.1, a0.1.2.2.2.1, a0.1.2.2.2.2, a0.2) (fun z7 =>
 k z7.1)))))
def vuo := shut wch
theorem wlw : vuo = wch := vap _
theorem wtr (a0 : va7) : Par (vuo a0) := by
  rw [wlw]
  unfold wch
  exact ((wti _).bind fun y1 => (vab (vaa _) (vab (vaa _) ((wh4 _).bind2 (fun y2 => ((v5p _ _).bind fun y3 => (vab (vaa _) ((vig _).bind fun z4 => (vaa _))))) (fun y5 => ((v5p _ _).bind fun y6 => (vab (vaa _) ((vig _).bind fun z7 => (vaa _)))))))))
def vds (x : q43T) (k : q44T → Option Res) : Option Res :=
 if x.2.2.2.2.2.2.2.2.2.2.2.2.2.2.2.2.2.2.2.length + [(x.2.2.2.2.2.2.1, ((1 : Int), (x.2.2.2.2.2.1, ((0 : Int), (([] : List van), (([] : List vaj), (false, (⟨#[]⟩ : ByteArray))))))))].length ≤ VE.maxLen then
 k (x.2.2.2.2.2.2.1, (0 : Int), x.2.2.1, x.2.2.2.1, x.2.2.2.2.1, x.2.2.2.2.2.1, x.2.2.2.2.2.2.1, x.2.2.2.2.2.2.2.1, x.2.2.2.2.2.2.2.2.2.2.1, (IntKind.wrap .i64 (x.2.2.2.2.2.2.2.2.2.2.2.1 + (1 : Int))), x.2.2.2.2.2.2.2.2.2.2.1, (IntKind.wrap .i64 (x.2.2.2.2.2.2.2.2.2.2.2.1 + (1 : Int))), x.2.2.2.2.2.2.2.2.2.2.2.2.2.2.2.2.1, x.2.2.2.2.2.2.2.2.2.2.2.2.2.2.2.2.2.1, x.2.2.2.2.2.2.2.2.2.2.2.2.2.2.2.2.2.2.1, (x.2.2.2.2.2.2.2.2.2.2.2.2.2.2.2.2.2.2.2 ++ [(x.2.2.2.2.2.2.1, ((1 : Int), (x.2.2.2.2.2.1, ((0 : Int), (([] : List van), (([] : List vaj), (false, (⟨#[]⟩ : ByteArray))))))))]))
 else none
theorem vn2 (x : q43T) : Par (vds x) := by
  unfold vds
  exact (vak (vaa _) vae)
def wbd (a0 : va7) (k : q46T → Option Res) : Option Res :=
 vzd a0 (fun y1 =>
 vuo a0 (fun y2 =>
 bif (!y2) then
 k (y1.1, y1.2.1, (0 : Int), (3 : Int), y1.2.2.1, y1.2.2.2.1, y1.2.2.2.2.1, y1.2.2.2.2.2)
 else
 bif ((a0.2.length : Int) == (4 : Int)) then
 k (y1.1, y1.2.1, (0 : Int), (3 : Int), y1.2.2.1, y1.2.2.2.1, y1.2.2.2.2.1, y1.2.2.2.2.2)
 else
 bif (a0.1.2.2.2.2 == (9999 : Int)) then
 k (y1.1, y1.2.1, (0 : Int), (3 : Int), y1.2.2.1, y1.2.2.2.1, y1.2.2.2.2.1, y1.2.2.2.2.2)
 else
 vds ((0 : Int), (0 : Int), a0.1.1, a0.1.2.1, a0.1.2.2.1, a0.1.2.2.2.1, a0.1.2.2.2.2, a0.2, (0 : Int), (0 : Int), y1.1, y1.2.1, ([] : List vac), ([] : List dTxn), ([] : List dTxn), ([] : List dTxn), y1.2.2.1, y1.2.2.2.1, y1.2.2.2.2.1, y1.2.2.2.2.2) (fun z3 =>
 k (z3.2.2.2.2.2.2.2.2.1, z3.2.2.2.2.2.2.2.2.2.1, z3.1, z3.2.1, z3.2.2.2.2.2.2.2.2.2.2.2.2.1, z3.2.2.2.2.2.2.2.2.2.2.2.2.2.1, z3.2.2.2.2.2.2.2.2.2.2.2.2.2.2.1, z3.2.2.2.2.2.2.2.2.2.2.2.2.2.2.2))))
def vrd := shut wbd
theorem wkw : vrd = wbd := vap _
theorem wgx (a0 : va7) : Par (vrd a0) := by
  rw [wkw]
  unfold wbd
  exact ((ws8 _).bind fun y1 => ((wtr _).bind fun y2 => (vab (vaa _) (vab (vaa _) (vab (vaa _) ((vn2 _).bind fun z3 => (vaa _)))))))
def wev (a0 : vac) (a1 : vac) (k : Bool → Option Res) : Option Res :=
 bif (!(vbd a0.1 a1.1)) then
 k false
 else
 bif (!(vbd a0.2.1 a1.2.1)) then
 k false
 else
 bif (!(a0.2.2.1 == a1.2.2.1)) then
 k false
 else
 bif (a0.2.2.2 != a1.2.2.2) then
 k false
 else
 k true
def vwy := shut wev
theorem wih : vwy = wev := vap _
theorem wta (a0 : vac) (a1 : vac) : Par (vwy a0 a1) := by
  rw [wih]
  unfold wev
  exact (vab (vaa _) (vab (vaa _) (vab (vaa _) (vab (vaa _) (vaa _)))))
def vld (x : q11T) (k : q11T ⊕ (q11T ⊕ q11T) → Option Res) : Option Res :=
 bif (decide (x.2.2.2 < (x.1.length : Int))) then
 if 0 ≤ x.2.2.2 ∧ x.2.2.2 < (x.1.length : Int) then
 if 0 ≤ x.2.2.2 ∧ x.2.2.2 < (x.2.1.length : Int) then
 vwy (rd (Ty.zero tVersion) x.1 x.2.2.2) (rd (Ty.zero tVersion) x.2.1 x.2.2.2) (fun y3 =>
 bif (!y3) then
 k (.inr (.inl (x.1, x.2.1, false, x.2.2.2)))
 else
 k (.inl (x.1, x.2.1, x.2.2.1, (IntKind.wrap .i64 (x.2.2.2 + (1 : Int))))))
 else none
 else none
 else
 k (.inr (.inr (x.1, x.2.1, x.2.2.1, x.2.2.2)))
theorem wbf (x : q11T) : Par (vld x) := by
  unfold vld
  exact (vab (vak (vak ((wta _ _).bind fun y3 => (vab (vaa _) (vaa _))) vae) vae) (vaa _))
def wao (a0 : (List vac)) (a1 : (List vac)) (k : Bool → Option Res) : Option Res :=
 bif ((a0.length : Int) != (a1.length : Int)) then
 k false
 else
 vah vld Fuel (a0, a1, false, (0 : Int)) (Sum.elim (fun z1 =>
 k z1.2.2.1) (fun _ =>
 k true))
def vw3 := shut wao
theorem wll : vw3 = wao := vap _
theorem wts (a0 : (List vac)) (a1 : (List vac)) : Par (vw3 a0 a1) := by
  rw [wll]
  unfold wao
  exact (vab (vaa _) ((vau wbf _ _).bind2 (fun z1 => (vaa _)) (fun z2 => (vaa _))))
def wag (a0 : van) (a1 : van) (k : Bool → Option Res) : Option Res :=
 bif (!(vbd a0.1 a1.1)) then
 k false
 else
 bif (!(vbd a0.2 a1.2)) then
 k false
 else
 k true
def vxb := shut wag
theorem wi7 : vxb = wag := vap _
theorem wto (a0 : van) (a1 : van) : Par (vxb a0 a1) := by
  rw [wi7]
  unfold wag
  exact (vab (vaa _) (vab (vaa _) (vaa _)))
def vj3 (x : q2T) (k : q2T ⊕ (q2T ⊕ q2T) → Option Res) : Option Res :=
 bif (decide (x.2.2.2 < (x.1.length : Int))) then
 if 0 ≤ x.2.2.2 ∧ x.2.2.2 < (x.1.length : Int) then
 if 0 ≤ x.2.2.2 ∧ x.2.2.2 < (x.2.1.length : Int) then
 vxb (rd (Ty.zero tRange) x.1 x.2.2.2) (rd (Ty.zero tRange) x.2.1 x.2.2.2) (fun y3 =>
 bif (!y3) then
 k (.inr (.inl (x.1, x.2.1, false, x.2.2.2)))
 else
 k (.inl (x.1, x.2.1, x.2.2.1, (IntKind.wrap .i64 (x.2.2.2 + (1 : Int))))))
 else none
 else none
 else
 k (.inr (.inr (x.1, x.2.1, x.2.2.1, x.2.2.2)))
theorem wec (x : q2T) : Par (vj3 x) := by
  unfold vj3
  exact (vab (vak (vak ((wto _ _).bind fun y3 => (vab (vaa _) (vaa _))) vae) vae) (vaa _))
def wdz (a0 : (List van)) (a1 : (List van)) (k : Bool → Option Res) : Option Res :=
 bif ((a0.length : Int) != (a1.length : Int)) then
 k false
 else
 vah vj3 Fuel (a0, a1, false, (0 : Int)) (Sum.elim (fun z1 =>
 k z1.2.2.1) (fun _ =>
 k true))
def vwm := shut wdz
theorem wk2 : vwm = wdz := vap _
theorem wtu (a0 : (List van)) (a1 : (List van)) : Par (vwm a0 a1) := by
  rw [wk2]
  unfold wdz
  exact (vab (vaa _) ((vau wec _ _).bind2 (fun z1 => (vaa _)) (fun z2 => (vaa _))))
def wep (a0 : vaj) (a1 : vaj) (k : Bool → Option Res) : Option Res :=
 bif (!(vbd a0.1 a1.1)) then
 k false
 else
 bif (!(vbd a0.2.1 a1.2.1)) then
 k false
 else
 bif (!(a0.2.2 == a1.2.2)) then
 k false
 else
 k true
def vuw := shut wep
theorem wik : vuw = wep := vap _
theorem wsq (a0 : vaj) (a1 : vaj) : Par (vuw a0 a1) := by
  rw [wik]
  unfold wep
  exact (vab (vaa _) (vab (vaa _) (vab (vaa _) (vaa _))))
def vjw (x : q16T) (k : q16T ⊕ (q16T ⊕ q16T) → Option Res) : Option Res :=
 bif (decide (x.2.2.2 < (x.1.length : Int))) then
 if 0 ≤ x.2.2.2 ∧ x.2.2.2 < (x.1.length : Int) then
 if 0 ≤ x.2.2.2 ∧ x.2.2.2 < (x.2.1.length : Int) then
 vuw (rd (Ty.zero tWrite) x.1 x.2.2.2) (rd (Ty.zero tWrite) x.2.1 x.2.2.2) (fun y3 =>
 bif (!y3) then
 k (.inr (.inl (x.1, x.2.1, false, x.2.2.2)))
 else
 k (.inl (x.1, x.2.1, x.2.2.1, (IntKind.wrap .i64 (x.2.2.2 + (1 : Int))))))
 else none
 else none
 else
 k (.inr (.inr (x.1, x.2.1, x.2.2.1, x.2.2.2)))
theorem wdy (x : q16T) : Par (vjw x) := by
  unfold vjw
  exact (vab (vak (vak ((wsq _ _).bind fun y3 => (vab (vaa _) (vaa _))) vae) vae) (vaa _))
def wbt (a0 : (List vaj)) (a1 : (List vaj)) (k : Bool → Option Res) : Option Res :=
 bif ((a0.length : Int) != (a1.length : Int)) then
 k false
 else
 vah vjw Fuel (a0, a1, false, (0 : Int)) (Sum.elim (fun z1 =>
 k z1.2.2.1) (fun _ =>
 k true))
def vvj := shut wbt
theorem wld : vvj = wbt := vap _
theorem wtg (a0 : (List vaj)) (a1 : (List vaj)) : Par (vvj a0 a1) := by
  rw [wld]
  unfold wbt
  exact (vab (vaa _) ((vau wdy _ _).bind2 (fun z1 => (vaa _)) (fun z2 => (vaa _))))
def wdj (a0 : dTxn) (a1 : dTxn) (k : Bool → Option Res) : Option Res :=
 bif (a0.1 != a1.1) then
 k false
 else
 bif (a0.2.1 != a1.2.1) then
 k false
 else
 bif (a0.2.2.1 != a1.2.2.1) then
 k false
 else
 bif (a0.2.2.2.1 != a1.2.2.2.1) then
 k false
 else
 vwm a0.2.2.2.2.1 a1.2.2.2.2.1 (fun y1 =>
 bif (!y1) then
 k false
 else
 vvj a0.2.2.2.2.2.1 a1.2.2.2.2.2.1 (fun y2 =>
 bif (!y2) then
 k false
 else
 bif (!(a0.2.2.2.2.2.2.1 == a1.2.2.2.2.2.2.1)) then
 k false
 else
 bif (!(vbd a0.2.2.2.2.2.2.2 a1.2.2.2.2.2.2.2)) then
 k false
 else
 k true))
def vtb := shut wdj
theorem whv : vtb = wdj := vap _
theorem wte (a0 : dTxn) (a1 : dTxn) : Par (vtb a0 a1) := by
  rw [whv]
  unfold wdj
  exact (vab (vaa _) (vab (vaa _) (vab (vaa _) (vab (vaa _) ((wtu _ _).bind fun y1 => (vab (vaa _) ((wtg _ _).bind fun y2 => (vab (vaa _) (vab (vaa _) (vab (vaa _) (vaa _)))))))))))
def vjl (x : q5T) (k : q5T ⊕ (q5T ⊕ q5T) → Option Res) : Option Res :=
 bif (decide (x.2.2.2 < (x.1.length : Int))) then
 if 0 ≤ x.2.2.2 ∧ x.2.2.2 < (x.1.length : Int) then
 if 0 ≤ x.2.2.2 ∧ x.2.2.2 < (x.2.1.length : Int) then
 vtb (rd (Ty.zero tTxn) x.1 x.2.2.2) (rd (Ty.zero tTxn) x.2.1 x.2.2.2) (fun y3 =>
 bif (!y3) then
 k (.inr (.inl (x.1, x.2.1, false, x.2.2.2)))
 else
 k (.inl (x.1, x.2.1, x.2.2.1, (IntKind.wrap .i64 (x.2.2.2 + (1 : Int))))))
 else none
 else none
 else
 k (.inr (.inr (x.1, x.2.1, x.2.2.1, x.2.2.2)))
theorem wak (x : q5T) : Par (vjl x) := by
  unfold vjl
  exact (vab (vak (vak ((wte _ _).bind fun y3 => (vab (vaa _) (vaa _))) vae) vae) (vaa _))
def wes (a0 : (List dTxn)) (a1 : (List dTxn)) (k : Bool → Option Res) : Option Res :=
 bif ((a0.length : Int) != (a1.length : Int)) then
 k false
 else
 vah vjl Fuel (a0, a1, false, (0 : Int)) (Sum.elim (fun z1 =>
 k z1.2.2.1) (fun _ =>
 k true))
def vo6 := shut wes
theorem wjr : vo6 = wes := vap _
theorem wd8 (a0 : (List dTxn)) (a1 : (List dTxn)) : Par (vo6 a0 a1) := by
  rw [wjr]
  unfold wes
  exact (vab (vaa _) ((vau wak _ _).bind2 (fun z1 => (vaa _)) (fun z2 => (vaa _))))
def v5z (a0 : vha) (a1 : vha) (k : Bool → Option Res) : Option Res :=
 vw3 a0.1 a1.1 (fun y1 =>
 bif (!y1) then
 k false
 else
 vo6 a0.2.1 a1.2.1 (fun y2 =>
 bif (!y2) then
 k false
 else
 vo6 a0.2.2.1 a1.2.2.1 (fun y3 =>
 bif (!y3) then
 k false
 else
 bif (a0.2.2.2.1 != a1.2.2.2.1) then
 k false
 else
 bif (a0.2.2.2.2 != a1.2.2.2.2) then
 k false
 else
 k true)))
def vvm := shut v5z
theorem wav : vvm = v5z := vap _
theorem wtn (a0 : vha) (a1 : vha) : Par (vvm a0 a1) := by
  rw [wav]
  unfold v5z
  exact ((wts _ _).bind fun y1 => (vab (vaa _) ((wd8 _ _).bind fun y2 => (vab (vaa _) ((wd8 _ _).bind fun y3 => (vab (vaa _) (vab (vaa _) (vab (vaa _) (vaa _)))))))))
def v5t (a0 : va7) (a1 : va7) (k : Bool → Option Res) : Option Res :=
 vvm a0.1 a1.1 (fun y1 =>
 bif (!y1) then
 k false
 else
 vo6 a0.2 a1.2 (fun y2 =>
 bif (!y2) then
 k false
 else
 k true))
def vhq := shut v5t
theorem wc1 : vhq = v5t := vap _
theorem v5q (a0 : va7) (a1 : va7) : Par (vhq a0 a1) := by
  rw [wc1]
  unfold v5t
  exact ((wtn _ _).bind fun y1 => (vab (vaa _) ((wd8 _ _).bind fun y2 => (vab (vaa _) (vaa _)))))
def vlv (x : (Int × ByteArray)) (k : (Int × ByteArray) ⊕ (Int × ByteArray) → Option Res) : Option Res :=
 bif (decide (x.1 > (0 : Int))) then
 if (vp2 [(IntKind.wrap .u8 (IntKind.wrap .i64 ((48 : Int) + (x.1.tmod (10 : Int)))))]).size + x.2.size ≤ 1099511627776 then
 k (.inl ((IntKind.wrap .i64 (x.1.tdiv (10 : Int))), ((vp2 [(IntKind.wrap .u8 (IntKind.wrap .i64 ((48 : Int) + (x.1.tmod (10 : Int)))))]) ++ x.2)))
 else none
 else
 k (.inr (x.1, x.2))
theorem wcb (x : (Int × ByteArray)) : Par (vlv x) := by
  unfold vlv
  exact (vab (vak (vaa _) vae) (vaa _))
def wcj (a0 : Int) (k : ByteArray → Option Res) : Option Res :=
 bif (decide (a0 ≤ (0 : Int))) then
 k (⟨#[109, 48]⟩ : ByteArray)
 else
 vah vlv Fuel (a0, (⟨#[]⟩ : ByteArray)) (fun z1 =>
 if (⟨#[109]⟩ : ByteArray).size + z1.2.size ≤ 1099511627776 then
 k ((⟨#[109]⟩ : ByteArray) ++ z1.2)
 else none)
def vck := shut wcj
theorem wiy : vck = wcj := vap _
theorem vhr (a0 : Int) : Par (vck a0) := by
  rw [wiy]
  unfold wcj
  exact (vab (vaa _) ((vau wcb _ _).bind fun z1 => (vak (vaa _) vae)))
def vjt (x : (Int × Int × (List vac))) (k : (Int × Int × (List vac)) ⊕ (Int × Int × (List vac)) → Option Res) : Option Res :=
 bif (decide (x.2.1 < (x.2.2.length : Int))) then
 vck x.1 (fun y2 =>
 if 0 ≤ x.2.1 ∧ x.2.1 < (x.2.2.length : Int) then
 vck (IntKind.wrap .i64 (x.1 + (1 : Int))) (fun y3 =>
 if 0 ≤ x.2.1 ∧ x.2.1 < ((x.2.2.set x.2.1.toNat (y2, (x.2.2.getD x.2.1.toNat (Ty.zero tVersion)).2)).length : Int) then
 if 0 ≤ x.2.1 ∧ x.2.1 < (((x.2.2.set x.2.1.toNat (y2, (x.2.2.getD x.2.1.toNat (Ty.zero tVersion)).2)).set x.2.1.toNat (((x.2.2.set x.2.1.toNat (y2, (x.2.2.getD x.2.1.toNat (Ty.zero tVersion)).2)).getD x.2.1.toNat (Ty.zero tVersion)).1, (y3, ((x.2.2.set x.2.1.toNat (y2, (x.2.2.getD x.2.1.toNat (Ty.zero tVersion)).2)).getD x.2.1.toNat (Ty.zero tVersion)).2.2))).length : Int) then
 if 0 ≤ x.2.1 ∧ x.2.1 < ((((x.2.2.set x.2.1.toNat (y2, (x.2.2.getD x.2.1.toNat (Ty.zero tVersion)).2)).set x.2.1.toNat (((x.2.2.set x.2.1.toNat (y2, (x.2.2.getD x.2.1.toNat (Ty.zero tVersion)).2)).getD x.2.1.toNat (Ty.zero tVersion)).1, (y3, ((x.2.2.set x.2.1.toNat (y2, (x.2.2.getD x.2.1.toNat (Ty.zero tVersion)).2)).getD x.2.1.toNat (Ty.zero tVersion)).2.2))).set x.2.1.toNat ((((x.2.2.set x.2.1.toNat (y2, (x.2.2.getD x.2.1.toNat (Ty.zero tVersion)).2)).set x.2.1.toNat (((x.2.2.set x.2.1.toNat (y2, (x.2.2.getD x.2.1.toNat (Ty.zero tVersion)).2)).getD x.2.1.toNat (Ty.zero tVersion)).1, (y3, ((x.2.2.set x.2.1.toNat (y2, (x.2.2.getD x.2.1.toNat (Ty.zero tVersion)).2)).getD x.2.1.toNat (Ty.zero tVersion)).2.2))).getD x.2.1.toNat (Ty.zero tVersion)).1, ((((x.2.2.set x.2.1.toNat (y2, (x.2.2.getD x.2.1.toNat (Ty.zero tVersion)).2)).set x.2.1.toNat (((x.2.2.set x.2.1.toNat (y2, (x.2.2.getD x.2.1.toNat (Ty.zero tVersion)).2)).getD x.2.1.toNat (Ty.zero tVersion)).1, (y3, ((x.2.2.set x.2.1.toNat (y2, (x.2.2.getD x.2.1.toNat (Ty.zero tVersion)).2)).getD x.2.1.toNat (Ty.zero tVersion)).2.2))).getD x.2.1.toNat (Ty.zero tVersion)).2.1, ((((IntKind.wrap .i64 ((IntKind.wrap .i64 (x.1 + (1 : Int))) + (1 : Int))).tmod (3 : Int)) == (0 : Int)), (((x.2.2.set x.2.1.toNat (y2, (x.2.2.getD x.2.1.toNat (Ty.zero tVersion)).2)).set x.2.1.toNat (((x.2.2.set x.2.1.toNat (y2, (x.2.2.getD x.2.1.toNat (Ty.zero tVersion)).2)).getD x.2.1.toNat (Ty.zero tVersion)).1, (y3, ((x.2.2.set x.2.1.toNat (y2, (x.2.2.getD x.2.1.toNat (Ty.zero tVersion)).2)).getD x.2.1.toNat (Ty.zero tVersion)).2.2))).getD x.2.1.toNat (Ty.zero tVersion)).2.2.2)))).length : Int) then
 k (.inl ((IntKind.wrap .i64 ((IntKind.wrap .i64 ((IntKind.wrap .i64 ((IntKind.wrap .i64 (x.1 + (1 : Int))) + (1 : Int))) + (1 : Int))) + (1 : Int))), (IntKind.wrap .i64 (x.2.1 + (1 : Int))), ((((x.2.2.set x.2.1.toNat (y2, (x.2.2.getD x.2.1.toNat (Ty.zero tVersion)).2)).set x.2.1.toNat (((x.2.2.set x.2.1.toNat (y2, (x.2.2.getD x.2.1.toNat (Ty.zero tVersion)).2)).getD x.2.1.toNat (Ty.zero tVersion)).1, (y3, ((x.2.2.set x.2.1.toNat (y2, (x.2.2.getD x.2.1.toNat (Ty.zero tVersion)).2)).getD x.2.1.toNat (Ty.zero tVersion)).2.2))).set x.2.1.toNat ((((x.2.2.set x.2.1.toNat (y2, (x.2.2.getD x.2.1.toNat (Ty.zero tVersion)).2)).set x.2.1.toNat (((x.2.2.set x.2.1.toNat (y2, (x.2.2.getD x.2.1.toNat (Ty.zero tVersion)).2)).getD x.2.1.toNat (Ty.zero tVersion)).1, (y3, ((x.2.2.set x.2.1.toNat (y2, (x.2.2.getD x.2.1.toNat (Ty.zero tVersion)).2)).getD x.2.1.toNat (Ty.zero tVersion)).2.2))).getD x.2.1.toNat (Ty.zero tVersion)).1, ((((x.2.2.set x.2.1.toNat (y2, (x.2.2.getD x.2.1.toNat (Ty.zero tVersion)).2)).set x.2.1.toNat (((x.2.2.set x.2.1.toNat (y2, (x.2.2.getD x.2.1.toNat (Ty.zero tVersion)).2)).getD x.2.1.toNat (Ty.zero tVersion)).1, (y3, ((x.2.2.set x.2.1.toNat (y2, (x.2.2.getD x.2.1.toNat (Ty.zero tVersion)).2)).getD x.2.1.toNat (Ty.zero tVersion)).2.2))).getD x.2.1.toNat (Ty.zero tVersion)).2.1, ((((IntKind.wrap .i64 ((IntKind.wrap .i64 (x.1 + (1 : Int))) + (1 : Int))).tmod (3 : Int)) == (0 : Int)), (((x.2.2.set x.2.1.toNat (y2, (x.2.2.getD x.2.1.toNat (Ty.zero tVersion)).2)).set x.2.1.toNat (((x.2.2.set x.2.1.toNat (y2, (x.2.2.getD x.2.1.toNat (Ty.zero tVersion)).2)).getD x.2.1.toNat (Ty.zero tVersion)).1, (y3, ((x.2.2.set x.2.1.toNat (y2, (x.2.2.getD x.2.1.toNat (Ty.zero tVersion)).2)).getD x.2.1.toNat (Ty.zero tVersion)).2.2))).getD x.2.1.toNat (Ty.zero tVersion)).2.2.2)))).set x.2.1.toNat (((((x.2.2.set x.2.1.toNat (y2, (x.2.2.getD x.2.1.toNat (Ty.zero tVersion)).2)).set x.2.1.toNat (((x.2.2.set x.2.1.toNat (y2, (x.2.2.getD x.2.1.toNat (Ty.zero tVersion)).2)).getD x.2.1.toNat (Ty.zero tVersion)).1, (y3, ((x.2.2.set x.2.1.toNat (y2, (x.2.2.getD x.2.1.toNat (Ty.zero tVersion)).2)).getD x.2.1.toNat (Ty.zero tVersion)).2.2))).set x.2.1.toNat ((((x.2.2.set x.2.1.toNat (y2, (x.2.2.getD x.2.1.toNat (Ty.zero tVersion)).2)).set x.2.1.toNat (((x.2.2.set x.2.1.toNat (y2, (x.2.2.getD x.2.1.toNat (Ty.zero tVersion)).2)).getD x.2.1.toNat (Ty.zero tVersion)).1, (y3, ((x.2.2.set x.2.1.toNat (y2, (x.2.2.getD x.2.1.toNat (Ty.zero tVersion)).2)).getD x.2.1.toNat (Ty.zero tVersion)).2.2))).getD x.2.1.toNat (Ty.zero tVersion)).1, ((((x.2.2.set x.2.1.toNat (y2, (x.2.2.getD x.2.1.toNat (Ty.zero tVersion)).2)).set x.2.1.toNat (((x.2.2.set x.2.1.toNat (y2, (x.2.2.getD x.2.1.toNat (Ty.zero tVersion)).2)).getD x.2.1.toNat (Ty.zero tVersion)).1, (y3, ((x.2.2.set x.2.1.toNat (y2, (x.2.2.getD x.2.1.toNat (Ty.zero tVersion)).2)).getD x.2.1.toNat (Ty.zero tVersion)).2.2))).getD x.2.1.toNat (Ty.zero tVersion)).2.1, ((((IntKind.wrap .i64 ((IntKind.wrap .i64 (x.1 + (1 : Int))) + (1 : Int))).tmod (3 : Int)) == (0 : Int)), (((x.2.2.set x.2.1.toNat (y2, (x.2.2.getD x.2.1.toNat (Ty.zero tVersion)).2)).set x.2.1.toNat (((x.2.2.set x.2.1.toNat (y2, (x.2.2.getD x.2.1.toNat (Ty.zero tVersion)).2)).getD x.2.1.toNat (Ty.zero tVersion)).1, (y3, ((x.2.2.set x.2.1.toNat (y2, (x.2.2.getD x.2.1.toNat (Ty.zero tVersion)).2)).getD x.2.1.toNat (Ty.zero tVersion)).2.2))).getD x.2.1.toNat (Ty.zero tVersion)).2.2.2)))).getD x.2.1.toNat (Ty.zero tVersion)).1, (((((x.2.2.set x.2.1.toNat (y2, (x.2.2.getD x.2.1.toNat (Ty.zero tVersion)).2)).set x.2.1.toNat (((x.2.2.set x.2.1.toNat (y2, (x.2.2.getD x.2.1.toNat (Ty.zero tVersion)).2)).getD x.2.1.toNat (Ty.zero tVersion)).1, (y3, ((x.2.2.set x.2.1.toNat (y2, (x.2.2.getD x.2.1.toNat (Ty.zero tVersion)).2)).getD x.2.1.toNat (Ty.zero tVersion)).2.2))).set x.2.1.toNat ((((x.2.2.set x.2.1.toNat (y2, (x.2.2.getD x.2.1.toNat (Ty.zero tVersion)).2)).set x.2.1.toNat (((x.2.2.set x.2.1.toNat (y2, (x.2.2.getD x.2.1.toNat (Ty.zero tVersion)).2)).getD x.2.1.toNat (Ty.zero tVersion)).1, (y3, ((x.2.2.set x.2.1.toNat (y2, (x.2.2.getD x.2.1.toNat (Ty.zero tVersion)).2)).getD x.2.1.toNat (Ty.zero tVersion)).2.2))).getD x.2.1.toNat (Ty.zero tVersion)).1, ((((x.2.2.set x.2.1.toNat (y2, (x.2.2.getD x.2.1.toNat (Ty.zero tVersion)).2)).set x.2.1.toNat (((x.2.2.set x.2.1.toNat (y2, (x.2.2.getD x.2.1.toNat (Ty.zero tVersion)).2)).getD x.2.1.toNat (Ty.zero tVersion)).1, (y3, ((x.2.2.set x.2.1.toNat (y2, (x.2.2.getD x.2.1.toNat (Ty.zero tVersion)).2)).getD x.2.1.toNat (Ty.zero tVersion)).2.2))).getD x.2.1.toNat (Ty.zero tVersion)).2.1, ((((IntKind.wrap .i64 ((IntKind.wrap .i64 (x.1 + (1 : Int))) + (1 : Int))).tmod (3 : Int)) == (0 : Int)), (((x.2.2.set x.2.1.toNat (y2, (x.2.2.getD x.2.1.toNat (Ty.zero tVersion)).2)).set x.2.1.toNat (((x.2.2.set x.2.1.toNat (y2, (x.2.2.getD x.2.1.toNat (Ty.zero tVersion)).2)).getD x.2.1.toNat (Ty.zero tVersion)).1, (y3, ((x.2.2.set x.2.1.toNat (y2, (x.2.2.getD x.2.1.toNat (Ty.zero tVersion)).2)).getD x.2.1.toNat (Ty.zero tVersion)).2.2))).getD x.2.1.toNat (Ty.zero tVersion)).2.2.2)))).getD x.2.1.toNat (Ty.zero tVersion)).2.1, (((((x.2.2.set x.2.1.toNat (y2, (x.2.2.getD x.2.1.toNat (Ty.zero tVersion)).2)).set x.2.1.toNat (((x.2.2.set x.2.1.toNat (y2, (x.2.2.getD x.2.1.toNat (Ty.zero tVersion)).2)).getD x.2.1.toNat (Ty.zero tVersion)).1, (y3, ((x.2.2.set x.2.1.toNat (y2, (x.2.2.getD x.2.1.toNat (Ty.zero tVersion)).2)).getD x.2.1.toNat (Ty.zero tVersion)).2.2))).set x.2.1.toNat ((((x.2.2.set x.2.1.toNat (y2, (x.2.2.getD x.2.1.toNat (Ty.zero tVersion)).2)).set x.2.1.toNat (((x.2.2.set x.2.1.toNat (y2, (x.2.2.getD x.2.1.toNat (Ty.zero tVersion)).2)).getD x.2.1.toNat (Ty.zero tVersion)).1, (y3, ((x.2.2.set x.2.1.toNat (y2, (x.2.2.getD x.2.1.toNat (Ty.zero tVersion)).2)).getD x.2.1.toNat (Ty.zero tVersion)).2.2))).getD x.2.1.toNat (Ty.zero tVersion)).1, ((((x.2.2.set x.2.1.toNat (y2, (x.2.2.getD x.2.1.toNat (Ty.zero tVersion)).2)).set x.2.1.toNat (((x.2.2.set x.2.1.toNat (y2, (x.2.2.getD x.2.1.toNat (Ty.zero tVersion)).2)).getD x.2.1.toNat (Ty.zero tVersion)).1, (y3, ((x.2.2.set x.2.1.toNat (y2, (x.2.2.getD x.2.1.toNat (Ty.zero tVersion)).2)).getD x.2.1.toNat (Ty.zero tVersion)).2.2))).getD x.2.1.toNat (Ty.zero tVersion)).2.1, ((((IntKind.wrap .i64 ((IntKind.wrap .i64 (x.1 + (1 : Int))) + (1 : Int))).tmod (3 : Int)) == (0 : Int)), (((x.2.2.set x.2.1.toNat (y2, (x.2.2.getD x.2.1.toNat (Ty.zero tVersion)).2)).set x.2.1.toNat (((x.2.2.set x.2.1.toNat (y2, (x.2.2.getD x.2.1.toNat (Ty.zero tVersion)).2)).getD x.2.1.toNat (Ty.zero tVersion)).1, (y3, ((x.2.2.set x.2.1.toNat (y2, (x.2.2.getD x.2.1.toNat (Ty.zero tVersion)).2)).getD x.2.1.toNat (Ty.zero tVersion)).2.2))).getD x.2.1.toNat (Ty.zero tVersion)).2.2.2)))).getD x.2.1.toNat (Ty.zero tVersion)).2.2.1, (IntKind.wrap .i64 ((IntKind.wrap .i64 ((IntKind.wrap .i64 (x.1 + (1 : Int))) + (1 : Int))) + (1 : Int)))))))))
 else none
 else none
 else none)
 else none)
 else
 k (.inr (x.1, x.2.1, x.2.2))
theorem wa7 (x : (Int × Int × (List vac))) : Par (vjt x) := by
  unfold vjt
  exact (vab ((vhr _).bind fun y2 => (vak ((vhr _).bind fun y3 => (vak (vak (vak (vaa _) vae) vae) vae)) vae)) (vaa _))
def wcc (a0 : Int) (a1 : (List vac)) (k : (Int × (List vac)) → Option Res) : Option Res :=
 vah vjt Fuel (a0, (0 : Int), a1) (fun z1 =>
 k (z1.1, z1.2.2))
def vzv := shut wcc
theorem wke : vzv = wcc := vap _
theorem wt9 (a0 : Int) (a1 : (List vac)) : Par (vzv a0 a1) := by
  rw [wke]
  unfold wcc
  exact ((vau wa7 _ _).bind fun z1 => (vaa _))
def vly (x : (Int × Int × (List van))) (k : (Int × Int × (List van)) ⊕ (Int × Int × (List van)) → Option Res) : Option Res :=
 bif (decide (x.2.1 < (x.2.2.length : Int))) then
 vck x.1 (fun y2 =>
 if 0 ≤ x.2.1 ∧ x.2.1 < (x.2.2.length : Int) then
 vck (IntKind.wrap .i64 (x.1 + (1 : Int))) (fun y3 =>
 if 0 ≤ x.2.1 ∧ x.2.1 < ((x.2.2.set x.2.1.toNat (y2, (x.2.2.getD x.2.1.toNat (Ty.zero tRange)).2)).length : Int) then
 k (.inl ((IntKind.wrap .i64 ((IntKind.wrap .i64 (x.1 + (1 : Int))) + (1 : Int))), (IntKind.wrap .i64 (x.2.1 + (1 : Int))), ((x.2.2.set x.2.1.toNat (y2, (x.2.2.getD x.2.1.toNat (Ty.zero tRange)).2)).set x.2.1.toNat (((x.2.2.set x.2.1.toNat (y2, (x.2.2.getD x.2.1.toNat (Ty.zero tRange)).2)).getD x.2.1.toNat (Ty.zero tRange)).1, y3))))
 else none)
 else none)
 else
 k (.inr (x.1, x.2.1, x.2.2))
theorem waa (x : (Int × Int × (List van))) : Par (vly x) := by
  unfold vly
  exact (vab ((vhr _).bind fun y2 => (vak ((vhr _).bind fun y3 => (vak (vaa _) vae)) vae)) (vaa _))
def wbh (a0 : Int) (a1 : (List van)) (k : (Int × (List van)) → Option Res) : Option Res :=
 vah vly Fuel (a0, (0 : Int), a1) (fun z1 =>
 k (z1.1, z1.2.2))
def vy8 := shut wbh
theorem wh6 : vy8 = wbh := vap _
theorem ws4 (a0 : Int) (a1 : (List van)) : Par (vy8 a0 a1) := by
  rw [wh6]
  unfold wbh
  exact ((vau waa _ _).bind fun z1 => (vaa _))
def vmn (x : (Int × Int × (List vaj))) (k : (Int × Int × (List vaj)) ⊕ (Int × Int × (List vaj)) → Option Res) : Option Res :=
 bif (decide (x.2.1 < (x.2.2.length : Int))) then
 vck x.1 (fun y2 =>
 if 0 ≤ x.2.1 ∧ x.2.1 < (x.2.2.length : Int) then
 vck (IntKind.wrap .i64 (x.1 + (1 : Int))) (fun y3 =>
 if 0 ≤ x.2.1 ∧ x.2.1 < ((x.2.2.set x.2.1.toNat (y2, (x.2.2.getD x.2.1.toNat (Ty.zero tWrite)).2)).length : Int) then
 if 0 ≤ x.2.1 ∧ x.2.1 < (((x.2.2.set x.2.1.toNat (y2, (x.2.2.getD x.2.1.toNat (Ty.zero tWrite)).2)).set x.2.1.toNat (((x.2.2.set x.2.1.toNat (y2, (x.2.2.getD x.2.1.toNat (Ty.zero tWrite)).2)).getD x.2.1.toNat (Ty.zero tWrite)).1, (y3, ((x.2.2.set x.2.1.toNat (y2, (x.2.2.getD x.2.1.toNat (Ty.zero tWrite)).2)).getD x.2.1.toNat (Ty.zero tWrite)).2.2))).length : Int) then
 k (.inl ((IntKind.wrap .i64 ((IntKind.wrap .i64 ((IntKind.wrap .i64 (x.1 + (1 : Int))) + (1 : Int))) + (1 : Int))), (IntKind.wrap .i64 (x.2.1 + (1 : Int))), (((x.2.2.set x.2.1.toNat (y2, (x.2.2.getD x.2.1.toNat (Ty.zero tWrite)).2)).set x.2.1.toNat (((x.2.2.set x.2.1.toNat (y2, (x.2.2.getD x.2.1.toNat (Ty.zero tWrite)).2)).getD x.2.1.toNat (Ty.zero tWrite)).1, (y3, ((x.2.2.set x.2.1.toNat (y2, (x.2.2.getD x.2.1.toNat (Ty.zero tWrite)).2)).getD x.2.1.toNat (Ty.zero tWrite)).2.2))).set x.2.1.toNat ((((x.2.2.set x.2.1.toNat (y2, (x.2.2.getD x.2.1.toNat (Ty.zero tWrite)).2)).set x.2.1.toNat (((x.2.2.set x.2.1.toNat (y2, (x.2.2.getD x.2.1.toNat (Ty.zero tWrite)).2)).getD x.2.1.toNat (Ty.zero tWrite)).1, (y3, ((x.2.2.set x.2.1.toNat (y2, (x.2.2.getD x.2.1.toNat (Ty.zero tWrite)).2)).getD x.2.1.toNat (Ty.zero tWrite)).2.2))).getD x.2.1.toNat (Ty.zero tWrite)).1, ((((x.2.2.set x.2.1.toNat (y2, (x.2.2.getD x.2.1.toNat (Ty.zero tWrite)).2)).set x.2.1.toNat (((x.2.2.set x.2.1.toNat (y2, (x.2.2.getD x.2.1.toNat (Ty.zero tWrite)).2)).getD x.2.1.toNat (Ty.zero tWrite)).1, (y3, ((x.2.2.set x.2.1.toNat (y2, (x.2.2.getD x.2.1.toNat (Ty.zero tWrite)).2)).getD x.2.1.toNat (Ty.zero tWrite)).2.2))).getD x.2.1.toNat (Ty.zero tWrite)).2.1, (((IntKind.wrap .i64 ((IntKind.wrap .i64 (x.1 + (1 : Int))) + (1 : Int))).tmod (3 : Int)) == (0 : Int)))))))
 else none
 else none)
 else none)
 else
 k (.inr (x.1, x.2.1, x.2.2))
theorem wek (x : (Int × Int × (List vaj))) : Par (vmn x) := by
  unfold vmn
  exact (vab ((vhr _).bind fun y2 => (vak ((vhr _).bind fun y3 => (vak (vak (vaa _) vae) vae)) vae)) (vaa _))
def wc3 (a0 : Int) (a1 : (List vaj)) (k : (Int × (List vaj)) → Option Res) : Option Res :=
 vah vmn Fuel (a0, (0 : Int), a1) (fun z1 =>
 k (z1.1, z1.2.2))
def vzu := shut wc3
theorem wj6 : vzu = wc3 := vap _
theorem wsu (a0 : Int) (a1 : (List vaj)) : Par (vzu a0 a1) := by
  rw [wj6]
  unfold wc3
  exact ((vau wek _ _).bind fun z1 => (vaa _))
def vdp (x : (Int × Int × (List dTxn))) (k : (Int × Int × (List dTxn)) → Option Res) : Option Res :=
 k (x.1, (IntKind.wrap .i64 (x.2.1 + (1 : Int))), x.2.2)
theorem vne (x : (Int × Int × (List dTxn))) : Par (vdp x) := by
  unfold vdp
  exact (vaa _)
def vdm (x : (Int × Int × (List dTxn))) (k : (Int × Int × (List dTxn)) → Option Res) : Option Res :=
 k ((IntKind.wrap .i64 (x.1 + (1 : Int))), x.2.1, x.2.2)
theorem vos (x : (Int × Int × (List dTxn))) : Par (vdm x) := by
  unfold vdm
  exact (vaa _)
def vdl (x : (Int × Int × (List dTxn))) (k : (Int × Int × (List dTxn)) → Option Res) : Option Res :=
 vck (IntKind.wrap .i64 (x.1 + (1 : Int))) (fun y10 =>
 if 0 ≤ x.2.1 ∧ x.2.1 < (x.2.2.length : Int) then
 vdm ((IntKind.wrap .i64 (x.1 + (1 : Int))), x.2.1, (x.2.2.set x.2.1.toNat ((x.2.2.getD x.2.1.toNat (Ty.zero tTxn)).1, ((x.2.2.getD x.2.1.toNat (Ty.zero tTxn)).2.1, ((x.2.2.getD x.2.1.toNat (Ty.zero tTxn)).2.2.1, ((x.2.2.getD x.2.1.toNat (Ty.zero tTxn)).2.2.2.1, ((x.2.2.getD x.2.1.toNat (Ty.zero tTxn)).2.2.2.2.1, ((x.2.2.getD x.2.1.toNat (Ty.zero tTxn)).2.2.2.2.2.1, ((x.2.2.getD x.2.1.toNat (Ty.zero tTxn)).2.2.2.2.2.2.1, y10))))))))) (fun z11 =>
 k (z11.1, z11.2.1, z11.2.2))
 else none)
theorem vo9 (x : (Int × Int × (List dTxn))) : Par (vdl x) := by
  unfold vdl
  exact ((vhr _).bind fun y10 => (vak ((vos _).bind fun z11 => (vaa _)) vae))
def vdq (x : (Int × Int × (List dTxn))) (k : (Int × Int × (List dTxn)) → Option Res) : Option Res :=
 if 0 ≤ x.2.1 ∧ x.2.1 < (x.2.2.length : Int) then
 vy8 (IntKind.wrap .i64 (x.1 + (1 : Int))) ((x.2.2.getD x.2.1.toNat (Ty.zero tTxn)).2.2.2.2.1) (fun y7 =>
 if 0 ≤ x.2.1 ∧ x.2.1 < ((x.2.2.set x.2.1.toNat ((x.2.2.getD x.2.1.toNat (Ty.zero tTxn)).1, ((x.2.2.getD x.2.1.toNat (Ty.zero tTxn)).2.1, ((x.2.2.getD x.2.1.toNat (Ty.zero tTxn)).2.2.1, ((x.2.2.getD x.2.1.toNat (Ty.zero tTxn)).2.2.2.1, (y7.2, (x.2.2.getD x.2.1.toNat (Ty.zero tTxn)).2.2.2.2.2)))))).length : Int) then
 vzu y7.1 (((x.2.2.set x.2.1.toNat ((x.2.2.getD x.2.1.toNat (Ty.zero tTxn)).1, ((x.2.2.getD x.2.1.toNat (Ty.zero tTxn)).2.1, ((x.2.2.getD x.2.1.toNat (Ty.zero tTxn)).2.2.1, ((x.2.2.getD x.2.1.toNat (Ty.zero tTxn)).2.2.2.1, (y7.2, (x.2.2.getD x.2.1.toNat (Ty.zero tTxn)).2.2.2.2.2)))))).getD x.2.1.toNat (Ty.zero tTxn)).2.2.2.2.2.1) (fun y8 =>
 if 0 ≤ x.2.1 ∧ x.2.1 < (((x.2.2.set x.2.1.toNat ((x.2.2.getD x.2.1.toNat (Ty.zero tTxn)).1, ((x.2.2.getD x.2.1.toNat (Ty.zero tTxn)).2.1, ((x.2.2.getD x.2.1.toNat (Ty.zero tTxn)).2.2.1, ((x.2.2.getD x.2.1.toNat (Ty.zero tTxn)).2.2.2.1, (y7.2, (x.2.2.getD x.2.1.toNat (Ty.zero tTxn)).2.2.2.2.2)))))).set x.2.1.toNat (((x.2.2.set x.2.1.toNat ((x.2.2.getD x.2.1.toNat (Ty.zero tTxn)).1, ((x.2.2.getD x.2.1.toNat (Ty.zero tTxn)).2.1, ((x.2.2.getD x.2.1.toNat (Ty.zero tTxn)).2.2.1, ((x.2.2.getD x.2.1.toNat (Ty.zero tTxn)).2.2.2.1, (y7.2, (x.2.2.getD x.2.1.toNat (Ty.zero tTxn)).2.2.2.2.2)))))).getD x.2.1.toNat (Ty.zero tTxn)).1, (((x.2.2.set x.2.1.toNat ((x.2.2.getD x.2.1.toNat (Ty.zero tTxn)).1, ((x.2.2.getD x.2.1.toNat (Ty.zero tTxn)).2.1, ((x.2.2.getD x.2.1.toNat (Ty.zero tTxn)).2.2.1, ((x.2.2.getD x.2.1.toNat (Ty.zero tTxn)).2.2.2.1, (y7.2, (x.2.2.getD x.2.1.toNat (Ty.zero tTxn)).2.2.2.2.2)))))).getD x.2.1.toNat (Ty.zero tTxn)).2.1, (((x.2.2.set x.2.1.toNat ((x.2.2.getD x.2.1.toNat (Ty.zero tTxn)).1, ((x.2.2.getD x.2.1.toNat (Ty.zero tTxn)).2.1, ((x.2.2.getD x.2.1.toNat (Ty.zero tTxn)).2.2.1, ((x.2.2.getD x.2.1.toNat (Ty.zero tTxn)).2.2.2.1, (y7.2, (x.2.2.getD x.2.1.toNat (Ty.zero tTxn)).2.2.2.2.2)))))).getD x.2.1.toNat (Ty.zero tTxn)).2.2.1, (((x.2.2.set x.2.1.toNat ((x.2.2.getD x.2.1.toNat (Ty.zero tTxn)).1, ((x.2.2.getD x.2.1.toNat (Ty.zero tTxn)).2.1, ((x.2.2.getD x.2.1.toNat (Ty.zero tTxn)).2.2.1, ((x.2.2.getD x.2.1.toNat (Ty.zero tTxn)).2.2.2.1, (y7.2, (x.2.2.getD x.2.1.toNat (Ty.zero tTxn)).2.2.2.2.2)))))).getD x.2.1.toNat (Ty.zero tTxn)).2.2.2.1, (((x.2.2.set x.2.1.toNat ((x.2.2.getD x.2.1.toNat (Ty.zero tTxn)).1, ((x.2.2.getD x.2.1.toNat (Ty.zero tTxn)).2.1, ((x.2.2.getD x.2.1.toNat (Ty.zero tTxn)).2.2.1, ((x.2.2.getD x.2.1.toNat (Ty.zero tTxn)).2.2.2.1, (y7.2, (x.2.2.getD x.2.1.toNat (Ty.zero tTxn)).2.2.2.2.2)))))).getD x.2.1.toNat (Ty.zero tTxn)).2.2.2.2.1, (y8.2, ((x.2.2.set x.2.1.toNat ((x.2.2.getD x.2.1.toNat (Ty.zero tTxn)).1, ((x.2.2.getD x.2.1.toNat (Ty.zero tTxn)).2.1, ((x.2.2.getD x.2.1.toNat (Ty.zero tTxn)).2.2.1, ((x.2.2.getD x.2.1.toNat (Ty.zero tTxn)).2.2.2.1, (y7.2, (x.2.2.getD x.2.1.toNat (Ty.zero tTxn)).2.2.2.2.2)))))).getD x.2.1.toNat (Ty.zero tTxn)).2.2.2.2.2.2))))))).length : Int) then
 vdl (y8.1, x.2.1, (((x.2.2.set x.2.1.toNat ((x.2.2.getD x.2.1.toNat (Ty.zero tTxn)).1, ((x.2.2.getD x.2.1.toNat (Ty.zero tTxn)).2.1, ((x.2.2.getD x.2.1.toNat (Ty.zero tTxn)).2.2.1, ((x.2.2.getD x.2.1.toNat (Ty.zero tTxn)).2.2.2.1, (y7.2, (x.2.2.getD x.2.1.toNat (Ty.zero tTxn)).2.2.2.2.2)))))).set x.2.1.toNat (((x.2.2.set x.2.1.toNat ((x.2.2.getD x.2.1.toNat (Ty.zero tTxn)).1, ((x.2.2.getD x.2.1.toNat (Ty.zero tTxn)).2.1, ((x.2.2.getD x.2.1.toNat (Ty.zero tTxn)).2.2.1, ((x.2.2.getD x.2.1.toNat (Ty.zero tTxn)).2.2.2.1, (y7.2, (x.2.2.getD x.2.1.toNat (Ty.zero tTxn)).2.2.2.2.2)))))).getD x.2.1.toNat (Ty.zero tTxn)).1, (((x.2.2.set x.2.1.toNat ((x.2.2.getD x.2.1.toNat (Ty.zero tTxn)).1, ((x.2.2.getD x.2.1.toNat (Ty.zero tTxn)).2.1, ((x.2.2.getD x.2.1.toNat (Ty.zero tTxn)).2.2.1, ((x.2.2.getD x.2.1.toNat (Ty.zero tTxn)).2.2.2.1, (y7.2, (x.2.2.getD x.2.1.toNat (Ty.zero tTxn)).2.2.2.2.2)))))).getD x.2.1.toNat (Ty.zero tTxn)).2.1, (((x.2.2.set x.2.1.toNat ((x.2.2.getD x.2.1.toNat (Ty.zero tTxn)).1, ((x.2.2.getD x.2.1.toNat (Ty.zero tTxn)).2.1, ((x.2.2.getD x.2.1.toNat (Ty.zero tTxn)).2.2.1, ((x.2.2.getD x.2.1.toNat (Ty.zero tTxn)).2.2.2.1, (y7.2, (x.2.2.getD x.2.1.toNat (Ty.zero tTxn)).2.2.2.2.2)))))).getD x.2.1.toNat (Ty.zero tTxn)).2.2.1, (((x.2.2.set x.2.1.toNat ((x.2.2.getD x.2.1.toNat (Ty.zero tTxn)).1, ((x.2.2.getD x.2.1.toNat (Ty.zero tTxn)).2.1, ((x.2.2.getD x.2.1.toNat (Ty.zero tTxn)).2.2.1, ((x.2.2.getD x.2.1.toNat (Ty.zero tTxn)).2.2.2.1, (y7.2, (x.2.2.getD x.2.1.toNat (Ty.zero tTxn)).2.2.2.2.2)))))).getD x.2.1.toNat (Ty.zero tTxn)).2.2.2.1, (((x.2.2.set x.2.1.toNat ((x.2.2.getD x.2.1.toNat (Ty.zero tTxn)).1, ((x.2.2.getD x.2.1.toNat (Ty.zero tTxn)).2.1, ((x.2.2.getD x.2.1.toNat (Ty.zero tTxn)).2.2.1, ((x.2.2.getD x.2.1.toNat (Ty.zero tTxn)).2.2.2.1, (y7.2, (x.2.2.getD x.2.1.toNat (Ty.zero tTxn)).2.2.2.2.2)))))).getD x.2.1.toNat (Ty.zero tTxn)).2.2.2.2.1, (y8.2, ((x.2.2.set x.2.1.toNat ((x.2.2.getD x.2.1.toNat (Ty.zero tTxn)).1, ((x.2.2.getD x.2.1.toNat (Ty.zero tTxn)).2.1, ((x.2.2.getD x.2.1.toNat (Ty.zero tTxn)).2.2.1, ((x.2.2.getD x.2.1.toNat (Ty.zero tTxn)).2.2.2.1, (y7.2, (x.2.2.getD x.2.1.toNat (Ty.zero tTxn)).2.2.2.2.2)))))).getD x.2.1.toNat (Ty.zero tTxn)).2.2.2.2.2.2))))))).set x.2.1.toNat ((((x.2.2.set x.2.1.toNat ((x.2.2.getD x.2.1.toNat (Ty.zero tTxn)).1, ((x.2.2.getD x.2.1.toNat (Ty.zero tTxn)).2.1, ((x.2.2.getD x.2.1.toNat (Ty.zero tTxn)).2.2.1, ((x.2.2.getD x.2.1.toNat (Ty.zero tTxn)).2.2.2.1, (y7.2, (x.2.2.getD x.2.1.toNat (Ty.zero tTxn)).2.2.2.2.2)))))).set x.2.1.toNat (((x.2.2.set x.2.1.toNat ((x.2.2.getD x.2.1.toNat (Ty.zero tTxn)).1, ((x.2.2.getD x.2.1.toNat (Ty.zero tTxn)).2.1, ((x.2.2.getD x.2.1.toNat (Ty.zero tTxn)).2.2.1, ((x.2.2.getD x.2.1.toNat (Ty.zero tTxn)).2.2.2.1, (y7.2, (x.2.2.getD x.2.1.toNat (Ty.zero tTxn)).2.2.2.2.2)))))).getD x.2.1.toNat (Ty.zero tTxn)).1, (((x.2.2.set x.2.1.toNat ((x.2.2.getD x.2.1.toNat (Ty.zero tTxn)).1, ((x.2.2.getD x.2.1.toNat (Ty.zero tTxn)).2.1, ((x.2.2.getD x.2.1.toNat (Ty.zero tTxn)).2.2.1, ((x.2.2.getD x.2.1.toNat (Ty.zero tTxn)).2.2.2.1, (y7.2, (x.2.2.getD x.2.1.toNat (Ty.zero tTxn)).2.2.2.2.2)))))).getD x.2.1.toNat (Ty.zero tTxn)).2.1, (((x.2.2.set x.2.1.toNat ((x.2.2.getD x.2.1.toNat (Ty.zero tTxn)).1, ((x.2.2.getD x.2.1.toNat (Ty.zero tTxn)).2.1, ((x.2.2.getD x.2.1.toNat (Ty.zero tTxn)).2.2.1, ((x.2.2.getD x.2.1.toNat (Ty.zero tTxn)).2.2.2.1, (y7.2, (x.2.2.getD x.2.1.toNat (Ty.zero tTxn)).2.2.2.2.2)))))).getD x.2.1.toNat (Ty.zero tTxn)).2.2.1, (((x.2.2.set x.2.1.toNat ((x.2.2.getD x.2.1.toNat (Ty.zero tTxn)).1, ((x.2.2.getD x.2.1.toNat (Ty.zero tTxn)).2.1, ((x.2.2.getD x.2.1.toNat (Ty.zero tTxn)).2.2.1, ((x.2.2.getD x.2.1.toNat (Ty.zero tTxn)).2.2.2.1, (y7.2, (x.2.2.getD x.2.1.toNat (Ty.zero tTxn)).2.2.2.2.2)))))).getD x.2.1.toNat (Ty.zero tTxn)).2.2.2.1, (((x.2.2.set x.2.1.toNat ((x.2.2.getD x.2.1.toNat (Ty.zero tTxn)).1, ((x.2.2.getD x.2.1.toNat (Ty.zero tTxn)).2.1, ((x.2.2.getD x.2.1.toNat (Ty.zero tTxn)).2.2.1, ((x.2.2.getD x.2.1.toNat (Ty.zero tTxn)).2.2.2.1, (y7.2, (x.2.2.getD x.2.1.toNat (Ty.zero tTxn)).2.2.2.2.2)))))).getD x.2.1.toNat (Ty.zero tTxn)).2.2.2.2.1, (y8.2, ((x.2.2.set x.2.1.toNat ((x.2.2.getD x.2.1.toNat (Ty.zero tTxn)).1, ((x.2.2.getD x.2.1.toNat (Ty.zero tTxn)).2.1, ((x.2.2.getD x.2.1.toNat (Ty.zero tTxn)).2.2.1, ((x.2.2.getD x.2.1.toNat (Ty.zero tTxn)).2.2.2.1, (y7.2, (x.2.2.getD x.2.1.toNat (Ty.zero tTxn)).2.2.2.2.2)))))).getD x.2.1.toNat (Ty.zero tTxn)).2.2.2.2.2.2))))))).getD x.2.1.toNat (Ty.zero tTxn)).1, ((((x.2.2.set x.2.1.toNat ((x.2.2.getD x.2.1.toNat (Ty.zero tTxn)).1, ((x.2.2.getD x.2.1.toNat (Ty.zero tTxn)).2.1, ((x.2.2.getD x.2.1.toNat (Ty.zero tTxn)).2.2.1, ((x.2.2.getD x.2.1.toNat (Ty.zero tTxn)).2.2.2.1, (y7.2, (x.2.2.getD x.2.1.toNat (Ty.zero tTxn)).2.2.2.2.2)))))).set x.2.1.toNat (((x.2.2.set x.2.1.toNat ((x.2.2.getD x.2.1.toNat (Ty.zero tTxn)).1, ((x.2.2.getD x.2.1.toNat (Ty.zero tTxn)).2.1, ((x.2.2.getD x.2.1.toNat (Ty.zero tTxn)).2.2.1, ((x.2.2.getD x.2.1.toNat (Ty.zero tTxn)).2.2.2.1, (y7.2, (x.2.2.getD x.2.1.toNat (Ty.zero tTxn)).2.2.2.2.2)))))).getD x.2.1.toNat (Ty.zero tTxn)).1, (((x.2.2.set x.2.1.toNat ((x.2.2.getD x.2.1.toNat (Ty.zero tTxn)).1, ((x.2.2.getD x.2.1.toNat (Ty.zero tTxn)).2.1, ((x.2.2.getD x.2.1.toNat (Ty.zero tTxn)).2.2.1, ((x.2.2.getD x.2.1.toNat (Ty.zero tTxn)).2.2.2.1, (y7.2, (x.2.2.getD x.2.1.toNat (Ty.zero tTxn)).2.2.2.2.2)))))).getD x.2.1.toNat (Ty.zero tTxn)).2.1, (((x.2.2.set x.2.1.toNat ((x.2.2.getD x.2.1.toNat (Ty.zero tTxn)).1, ((x.2.2.getD x.2.1.toNat (Ty.zero tTxn)).2.1, ((x.2.2.getD x.2.1.toNat (Ty.zero tTxn)).2.2.1, ((x.2.2.getD x.2.1.toNat (Ty.zero tTxn)).2.2.2.1, (y7.2, (x.2.2.getD x.2.1.toNat (Ty.zero tTxn)).2.2.2.2.2)))))).getD x.2.1.toNat (Ty.zero tTxn)).2.2.1, (((x.2.2.set x.2.1.toNat ((x.2.2.getD x.2.1.toNat (Ty.zero tTxn)).1, ((x.2.2.getD x.2.1.toNat (Ty.zero tTxn)).2.1, ((x.2.2.getD x.2.1.toNat (Ty.zero tTxn)).2.2.1, ((x.2.2.getD x.2.1.toNat (Ty.zero tTxn)).2.2.2.1, (y7.2, (x.2.2.getD x.2.1.toNat (Ty.zero tTxn)).2.2.2.2.2)))))).getD x.2.1.toNat (Ty.zero tTxn)).2.2.2.1, (((x.2.2.set x.2.1.toNat ((x.2.2.getD x.2.1.toNat (Ty.zero tTxn)).1, ((x.2.2.getD x.2.1.toNat (Ty.zero tTxn)).2.1, ((x.2.2.getD x.2.1.toNat (Ty.zero tTxn)).2.2.1, ((x.2.2.getD x.2.1.toNat (Ty.zero tTxn)).2.2.2.1, (y7.2, (x.2.2.getD x.2.1.toNat (Ty.zero tTxn)).2.2.2.2.2)))))).getD x.2.1.toNat (Ty.zero tTxn)).2.2.2.2.1, (y8.2, ((x.2.2.set x.2.1.toNat ((x.2.2.getD x.2.1.toNat (Ty.zero tTxn)).1, ((x.2.2.getD x.2.1.toNat (Ty.zero tTxn)).2.1, ((x.2.2.getD x.2.1.toNat (Ty.zero tTxn)).2.2.1, ((x.2.2.getD x.2.1.toNat (Ty.zero tTxn)).2.2.2.1, (y7.2, (x.2.2.getD x.2.1.toNat (Ty.zero tTxn)).2.2.2.2.2)))))).getD x.2.1.toNat (Ty.zero tTxn)).2.2.2.2.2.2))))))).getD x.2.1.toNat (Ty.zero tTxn)).2.1, ((((x.2.2.set x.2.1.toNat ((x.2.2.getD x.2.1.toNat (Ty.zero tTxn)).1, ((x.2.2.getD x.2.1.toNat (Ty.zero tTxn)).2.1, ((x.2.2.getD x.2.1.toNat (Ty.zero tTxn)).2.2.1, ((x.2.2.getD x.2.1.toNat (Ty.zero tTxn)).2.2.2.1, (y7.2, (x.2.2.getD x.2.1.toNat (Ty.zero tTxn)).2.2.2.2.2)))))).set x.2.1.toNat (((x.2.2.set x.2.1.toNat ((x.2.2.getD x.2.1.toNat (Ty.zero tTxn)).1, ((x.2.2.getD x.2.1.toNat (Ty.zero tTxn)).2.1, ((x.2.2.getD x.2.1.toNat (Ty.zero tTxn)).2.2.1, ((x.2.2.getD x.2.1.toNat (Ty.zero tTxn)).2.2.2.1, (y7.2, (x.2.2.getD x.2.1.toNat (Ty.zero tTxn)).2.2.2.2.2)))))).getD x.2.1.toNat (Ty.zero tTxn)).1, (((x.2.2.set x.2.1.toNat ((x.2.2.getD x.2.1.toNat (Ty.zero tTxn)).1, ((x.2.2.getD x.2.1.toNat (Ty.zero tTxn)).2.1, ((x.2.2.getD x.2.1.toNat (Ty.zero tTxn)).2.2.1, ((x.2.2.getD x.2.1.toNat (Ty.zero tTxn)).2.2.2.1, (y7.2, (x.2.2.getD x.2.1.toNat (Ty.zero tTxn)).2.2.2.2.2)))))).getD x.2.1.toNat (Ty.zero tTxn)).2.1, (((x.2.2.set x.2.1.toNat ((x.2.2.getD x.2.1.toNat (Ty.zero tTxn)).1, ((x.2.2.getD x.2.1.toNat (Ty.zero tTxn)).2.1, ((x.2.2.getD x.2.1.toNat (Ty.zero tTxn)).2.2.1, ((x.2.2.getD x.2.1.toNat (Ty.zero tTxn)).2.2.2.1, (y7.2, (x.2.2.getD x.2.1.toNat (Ty.zero tTxn)).2.2.2.2.2)))))).getD x.2.1.toNat (Ty.zero tTxn)).2.2.1, (((x.2.2.set x.2.1.toNat ((x.2.2.getD x.2.1.toNat (Ty.zero tTxn)).1, ((x.2.2.getD x.2.1.toNat (Ty.zero tTxn)).2.1, ((x.2.2.getD x.2.1.toNat (Ty.zero tTxn)).2.2.1, ((x.2.2.getD x.2.1.toNat (Ty.zero tTxn)).2.2.2.1, (y7.2, (x.2.2.getD x.2.1.toNat (Ty.zero tTxn)).2.2.2.2.2)))))).getD x.2.1.toNat (Ty.zero tTxn)).2.2.2.1, (((x.2.2.set x.2.1.toNat ((x.2.2.getD x.2.1.toNat (Ty.zero tTxn)).1, ((x.2.2.getD x.2.1.toNat (Ty.zero tTxn)).2.1, ((x.2.2.getD x.2.1.toNat (Ty.zero tTxn)).2.2.1, ((x.2.2.getD x.2.1.toNat (Ty.zero tTxn)).2.2.2.1, (y7.2, (x.2.2.getD x.2.1.toNat (Ty.zero tTxn)).2.2.2.2.2)))))).getD x.2.1.toNat (Ty.zero tTxn)).2.2.2.2.1, (y8.2, ((x.2.2.set x.2.1.toNat ((x.2.2.getD x.2.1.toNat (Ty.zero tTxn)).1, ((x.2.2.getD x.2.1.toNat (Ty.zero tTxn)).2.1, ((x.2.2.getD x.2.1.toNat (Ty.zero tTxn)).2.2.1, ((x.2.2.getD x.2.1.toNat (Ty.zero tTxn)).2.2.2.1, (y7.2, (x.2.2.getD x.2.1.toNat (Ty.zero tTxn)).2.2.2.2.2)))))).getD x.2.1.toNat (Ty.zero tTxn)).2.2.2.2.2.2))))))).getD x.2.1.toNat (Ty.zero tTxn)).2.2.1, ((((x.2.2.set x.2.1.toNat ((x.2.2.getD x.2.1.toNat (Ty.zero tTxn)).1, ((x.2.2.getD x.2.1.toNat (Ty.zero tTxn)).2.1, ((x.2.2.getD x.2.1.toNat (Ty.zero tTxn)).2.2.1, ((x.2.2.getD x.2.1.toNat (Ty.zero tTxn)).2.2.2.1, (y7.2, (x.2.2.getD x.2.1.toNat (Ty.zero tTxn)).2.2.2.2.2)))))).set x.2.1.toNat (((x.2.2.set x.2.1.toNat ((x.2.2.getD x.2.1.toNat (Ty.zero tTxn)).1, ((x.2.2.getD x.2.1.toNat (Ty.zero tTxn)).2.1, ((x.2.2.getD x.2.1.toNat (Ty.zero tTxn)).2.2.1, ((x.2.2.getD x.2.1.toNat (Ty.zero tTxn)).2.2.2.1, (y7.2, (x.2.2.getD x.2.1.toNat (Ty.zero tTxn)).2.2.2.2.2)))))).getD x.2.1.toNat (Ty.zero tTxn)).1, (((x.2.2.set x.2.1.toNat ((x.2.2.getD x.2.1.toNat (Ty.zero tTxn)).1, ((x.2.2.getD x.2.1.toNat (Ty.zero tTxn)).2.1, ((x.2.2.getD x.2.1.toNat (Ty.zero tTxn)).2.2.1, ((x.2.2.getD x.2.1.toNat (Ty.zero tTxn)).2.2.2.1, (y7.2, (x.2.2.getD x.2.1.toNat (Ty.zero tTxn)).2.2.2.2.2)))))).getD x.2.1.toNat (Ty.zero tTxn)).2.1, (((x.2.2.set x.2.1.toNat ((x.2.2.getD x.2.1.toNat (Ty.zero tTxn)).1, ((x.2.2.getD x.2.1.toNat (Ty.zero tTxn)).2.1, ((x.2.2.getD x.2.1.toNat (Ty.zero tTxn)).2.2.1, ((x.2.2.getD x.2.1.toNat (Ty.zero tTxn)).2.2.2.1, (y7.2, (x.2.2.getD x.2.1.toNat (Ty.zero tTxn)).2.2.2.2.2)))))).getD x.2.1.toNat (Ty.zero tTxn)).2.2.1, (((x.2.2.set x.2.1.toNat ((x.2.2.getD x.2.1.toNat (Ty.zero tTxn)).1, ((x.2.2.getD x.2.1.toNat (Ty.zero tTxn)).2.1, ((x.2.2.getD x.2.1.toNat (Ty.zero tTxn)).2.2.1, ((x.2.2.getD x.2.1.toNat (Ty.zero tTxn)).2.2.2.1, (y7.2, (x.2.2.getD x.2.1.toNat (Ty.zero tTxn)).2.2.2.2.2)))))).getD x.2.1.toNat (Ty.zero tTxn)).2.2.2.1, (((x.2.2.set x.2.1.toNat ((x.2.2.getD x.2.1.toNat (Ty.zero tTxn)).1, ((x.2.2.getD x.2.1.toNat (Ty.zero tTxn)).2.1, ((x.2.2.getD x.2.1.toNat (Ty.zero tTxn)).2.2.1, ((x.2.2.getD x.2.1.toNat (Ty.zero tTxn)).2.2.2.1, (y7.2, (x.2.2.getD x.2.1.toNat (Ty.zero tTxn)).2.2.2.2.2)))))).getD x.2.1.toNat (Ty.zero tTxn)).2.2.2.2.1, (y8.2, ((x.2.2.set x.2.1.toNat ((x.2.2.getD x.2.1.toNat (Ty.zero tTxn)).1, ((x.2.2.getD x.2.1.toNat (Ty.zero tTxn)).2.1, ((x.2.2.getD x.2.1.toNat (Ty.zero tTxn)).2.2.1, ((x.2.2.getD x.2.1.toNat (Ty.zero tTxn)).2.2.2.1, (y7.2, (x.2.2.getD x.2.1.toNat (Ty.zero tTxn)).2.2.2.2.2)))))).getD x.2.1.toNat (Ty.zero tTxn)).2.2.2.2.2.2))))))).getD x.2.1.toNat (Ty.zero tTxn)).2.2.2.1, ((((x.2.2.set x.2.1.toNat ((x.2.2.getD x.2.1.toNat (Ty.zero tTxn)).1, ((x.2.2.getD x.2.1.toNat (Ty.zero tTxn)).2.1, ((x.2.2.getD x.2.1.toNat (Ty.zero tTxn)).2.2.1, ((x.2.2.getD x.2.1.toNat (Ty.zero tTxn)).2.2.2.1, (y7.2, (x.2.2.getD x.2.1.toNat (Ty.zero tTxn)).2.2.2.2.2)))))).set x.2.1.toNat (((x.2.2.set x.2.1.toNat ((x.2.2.getD x.2.1.toNat (Ty.zero tTxn)).1, ((x.2.2.getD x.2.1.toNat (Ty.zero tTxn)).2.1, ((x.2.2.getD x.2.1.toNat (Ty.zero tTxn)).2.2.1, ((x.2.2.getD x.2.1.toNat (Ty.zero tTxn)).2.2.2.1, (y7.2, (x.2.2.getD x.2.1.toNat (Ty.zero tTxn)).2.2.2.2.2)))))).getD x.2.1.toNat (Ty.zero tTxn)).1, (((x.2.2.set x.2.1.toNat ((x.2.2.getD x.2.1.toNat (Ty.zero tTxn)).1, ((x.2.2.getD x.2.1.toNat (Ty.zero tTxn)).2.1, ((x.2.2.getD x.2.1.toNat (Ty.zero tTxn)).2.2.1, ((x.2.2.getD x.2.1.toNat (Ty.zero tTxn)).2.2.2.1, (y7.2, (x.2.2.getD x.2.1.toNat (Ty.zero tTxn)).2.2.2.2.2)))))).getD x.2.1.toNat (Ty.zero tTxn)).2.1, (((x.2.2.set x.2.1.toNat ((x.2.2.getD x.2.1.toNat (Ty.zero tTxn)).1, ((x.2.2.getD x.2.1.toNat (Ty.zero tTxn)).2.1, ((x.2.2.getD x.2.1.toNat (Ty.zero tTxn)).2.2.1, ((x.2.2.getD x.2.1.toNat (Ty.zero tTxn)).2.2.2.1, (y7.2, (x.2.2.getD x.2.1.toNat (Ty.zero tTxn)).2.2.2.2.2)))))).getD x.2.1.toNat (Ty.zero tTxn)).2.2.1, (((x.2.2.set x.2.1.toNat ((x.2.2.getD x.2.1.toNat (Ty.zero tTxn)).1, ((x.2.2.getD x.2.1.toNat (Ty.zero tTxn)).2.1, ((x.2.2.getD x.2.1.toNat (Ty.zero tTxn)).2.2.1, ((x.2.2.getD x.2.1.toNat (Ty.zero tTxn)).2.2.2.1, (y7.2, (x.2.2.getD x.2.1.toNat (Ty.zero tTxn)).2.2.2.2.2)))))).getD x.2.1.toNat (Ty.zero tTxn)).2.2.2.1, (((x.2.2.set x.2.1.toNat ((x.2.2.getD x.2.1.toNat (Ty.zero tTxn)).1, ((x.2.2.getD x.2.1.toNat (Ty.zero tTxn)).2.1, ((x.2.2.getD x.2.1.toNat (Ty.zero tTxn)).2.2.1, ((x.2.2.getD x.2.1.toNat (Ty.zero tTxn)).2.2.2.1, (y7.2, (x.2.2.getD x.2.1.toNat (Ty.zero tTxn)).2.2.2.2.2)))))).getD x.2.1.toNat (Ty.zero tTxn)).2.2.2.2.1, (y8.2, ((x.2.2.set x.2.1.toNat ((x.2.2.getD x.2.1.toNat (Ty.zero tTxn)).1, ((x.2.2.getD x.2.1.toNat (Ty.zero tTxn)).2.1, ((x.2.2.getD x.2.1.toNat (Ty.zero tTxn)).2.2.1, ((x.2.2.getD x.2.1.toNat (Ty.zero tTxn)).2.2.2.1, (y7.2, (x.2.2.getD x.2.1.toNat (Ty.zero tTxn)).2.2.2.2.2)))))).getD x.2.1.toNat (Ty.zero tTxn)).2.2.2.2.2.2))))))).getD x.2.1.toNat (Ty.zero tTxn)).2.2.2.2.1, ((((x.2.2.set x.2.1.toNat ((x.2.2.getD x.2.1.toNat (Ty.zero tTxn)).1, ((x.2.2.getD x.2.1.toNat (Ty.zero tTxn)).2.1, ((x.2.2.getD x.2.1.toNat (Ty.zero tTxn)).2.2.1, ((x.2.2.getD x.2.1.toNat (Ty.zero tTxn)).2.2.2.1, (y7.2, (x.2.2.getD x.2.1.toNat (Ty.zero tTxn)).2.2.2.2.2)))))).set x.2.1.toNat (((x.2.2.set x.2.1.toNat ((x.2.2.getD x.2.1.toNat (Ty.zero tTxn)).1, ((x.2.2.getD x.2.1.toNat (Ty.zero tTxn)).2.1, ((x.2.2.getD x.2.1.toNat (Ty.zero tTxn)).2.2.1, ((x.2.2.getD x.2.1.toNat (Ty.zero tTxn)).2.2.2.1, (y7.2, (x.2.2.getD x.2.1.toNat (Ty.zero tTxn)).2.2.2.2.2)))))).getD x.2.1.toNat (Ty.zero tTxn)).1, (((x.2.2.set x.2.1.toNat ((x.2.2.getD x.2.1.toNat (Ty.zero tTxn)).1, ((x.2.2.getD x.2.1.toNat (Ty.zero tTxn)).2.1, ((x.2.2.getD x.2.1.toNat (Ty.zero tTxn)).2.2.1, ((x.2.2.getD x.2.1.toNat (Ty.zero tTxn)).2.2.2.1, (y7.2, (x.2.2.getD x.2.1.toNat (Ty.zero tTxn)).2.2.2.2.2)))))).getD x.2.1.toNat (Ty.zero tTxn)).2.1, (((x.2.2.set x.2.1.toNat ((x.2.2.getD x.2.1.toNat (Ty.zero tTxn)).1, ((x.2.2.getD x.2.1.toNat (Ty.zero tTxn)).2.1, ((x.2.2.getD x.2.1.toNat (Ty.zero tTxn)).2.2.1, ((x.2.2.getD x.2.1.toNat (Ty.zero tTxn)).2.2.2.1, (y7.2, (x.2.2.getD x.2.1.toNat (Ty.zero tTxn)).2.2.2.2.2)))))).getD x.2.1.toNat (Ty.zero tTxn)).2.2.1, (((x.2.2.set x.2.1.toNat ((x.2.2.getD x.2.1.toNat (Ty.zero tTxn)).1, ((x.2.2.getD x.2.1.toNat (Ty.zero tTxn)).2.1, ((x.2.2.getD x.2.1.toNat (Ty.zero tTxn)).2.2.1, ((x.2.2.getD x.2.1.toNat (Ty.zero tTxn)).2.2.2.1, (y7.2, (x.2.2.getD x.2.1.toNat (Ty.zero tTxn)).2.2.2.2.2)))))).getD x.2.1.toNat (Ty.zero tTxn)).2.2.2.1, (((x.2.2.set x.2.1.toNat ((x.2.2.getD x.2.1.toNat (Ty.zero tTxn)).1, ((x.2.2.getD x.2.1.toNat (Ty.zero tTxn)).2.1, ((x.2.2.getD x.2.1.toNat (Ty.zero tTxn)).2.2.1, ((x.2.2.getD x.2.1.toNat (Ty.zero tTxn)).2.2.2.1, (y7.2, (x.2.2.getD x.2.1.toNat (Ty.zero tTxn)).2.2.2.2.2)))))).getD x.2.1.toNat (Ty.zero tTxn)).2.2.2.2.1, (y8.2, ((x.2.2.set x.2.1.toNat ((x.2.2.getD x.2.1.toNat (Ty.zero tTxn)).1, ((x.2.2.getD x.2.1.toNat (Ty.zero tTxn)).2.1, ((x.2.2.getD x.2.1.toNat (Ty.zero tTxn)).2.2.1, ((x.2.2.getD x.2.1.toNat (Ty.zero tTxn)).2.2.2.1, (y7.2, (x.2.2.getD x.2.1.toNat (Ty.zero tTxn)).2.2.2.2.2)))))).getD x.2.1.toNat (Ty.zero tTxn)).2.2.2.2.2.2))))))).getD x.2.1.toNat (Ty.zero tTxn)).2.2.2.2.2.1, (((y8.1.tmod (3 : Int)) == (0 : Int)), (((x.2.2.set x.2.1.toNat ((x.2.2.getD x.2.1.toNat (Ty.zero tTxn)).1, ((x.2.2.getD x.2.1.toNat (Ty.zero tTxn)).2.1, ((x.2.2.getD x.2.1.toNat (Ty.zero tTxn)).2.2.1, ((x.2.2.getD x.2.1.toNat (Ty.zero tTxn)).2.2.2.1, (y7.2, (x.2.2.getD x.2.1.toNat (Ty.zero tTxn)).2.2.2.2.2)))))).set x.2.1.toNat (((x.2.2.set x.2.1.toNat ((x.2.2.getD x.2.1.toNat (Ty.zero tTxn)).1, ((x.2.2.getD x.2.1.toNat (Ty.zero tTxn)).2.1, ((x.2.2.getD x.2.1.toNat (Ty.zero tTxn)).2.2.1, ((x.2.2.getD x.2.1.toNat (Ty.zero tTxn)).2.2.2.1, (y7.2, (x.2.2.getD x.2.1.toNat (Ty.zero tTxn)).2.2.2.2.2)))))).getD x.2.1.toNat (Ty.zero tTxn)).1, (((x.2.2.set x.2.1.toNat ((x.2.2.getD x.2.1.toNat (Ty.zero tTxn)).1, ((x.2.2.getD x.2.1.toNat (Ty.zero tTxn)).2.1, ((x.2.2.getD x.2.1.toNat (Ty.zero tTxn)).2.2.1, ((x.2.2.getD x.2.1.toNat (Ty.zero tTxn)).2.2.2.1, (y7.2, (x.2.2.getD x.2.1.toNat (Ty.zero tTxn)).2.2.2.2.2)))))).getD x.2.1.toNat (Ty.zero tTxn)).2.1, (((x.2.2.set x.2.1.toNat ((x.2.2.getD x.2.1.toNat (Ty.zero tTxn)).1, ((x.2.2.getD x.2.1.toNat (Ty.zero tTxn)).2.1, ((x.2.2.getD x.2.1.toNat (Ty.zero tTxn)).2.2.1, ((x.2.2.getD x.2.1.toNat (Ty.zero tTxn)).2.2.2.1, (y7.2, (x.2.2.getD x.2.1.toNat (Ty.zero tTxn)).2.2.2.2.2)))))).getD x.2.1.toNat (Ty.zero tTxn)).2.2.1, (((x.2.2.set x.2.1.toNat ((x.2.2.getD x.2.1.toNat (Ty.zero tTxn)).1, ((x.2.2.getD x.2.1.toNat (Ty.zero tTxn)).2.1, ((x.2.2.getD x.2.1.toNat (Ty.zero tTxn)).2.2.1, ((x.2.2.getD x.2.1.toNat (Ty.zero tTxn)).2.2.2.1, (y7.2, (x.2.2.getD x.2.1.toNat (Ty.zero tTxn)).2.2.2.2.2)))))).getD x.2.1.toNat (Ty.zero tTxn)).2.2.2.1, (((x.2.2.set x.2.1.toNat ((x.2.2.getD x.2.1.toNat (Ty.zero tTxn)).1, ((x.2.2.getD x.2.1.toNat (Ty.zero tTxn)).2.1, ((x.2.2.getD x.2.1.toNat (Ty.zero tTxn)).2.2.1, ((x.2.2.getD x.2.1.toNat (Ty.zero tTxn)).2.2.2.1, (y7.2, (x.2.2.getD x.2.1.toNat (Ty.zero tTxn)).2.2.2.2.2)))))).getD x.2.1.toNat (Ty.zero tTxn)).2.2.2.2.1, (y8.2, ((x.2.2.set x.2.1.toNat ((x.2.2.getD x.2.1.toNat (Ty.zero tTxn)).1, ((x.2.2.getD x.2.1.toNat (Ty.zero tTxn)).2.1, ((x.2.2.getD x.2.1.toNat (Ty.zero tTxn)).2.2.1, ((x.2.2.getD x.2.1.toNat (Ty.zero tTxn)).2.2.2.1, (y7.2, (x.2.2.getD x.2.1.toNat (Ty.zero tTxn)).2.2.2.2.2)))))).getD x.2.1.toNat (Ty.zero tTxn)).2.2.2.2.2.2))))))).getD x.2.1.toNat (Ty.zero tTxn)).2.2.2.2.2.2.2))))))))) (fun z9 =>
 k (z9.1, z9.2.1, z9.2.2))
 else none)
 else none)
 else none
theorem vnx (x : (Int × Int × (List dTxn))) : Par (vdq x) := by
  unfold vdq
  exact (vak ((ws4 _ _).bind fun y7 => (vak ((wsu _ _).bind fun y8 => (vak ((vo9 _).bind fun z9 => (vaa _)) vae)) vae)) vae)
def vdt (x : (Int × Int × (List dTxn))) (k : (Int × Int × (List dTxn)) → Option Res) : Option Res :=
 if 0 ≤ x.2.1 ∧ x.2.1 < (x.2.2.length : Int) then
 vdq ((IntKind.wrap .i64 (x.1 + (1 : Int))), x.2.1, (x.2.2.set x.2.1.toNat ((x.2.2.getD x.2.1.toNat (Ty.zero tTxn)).1, ((x.2.2.getD x.2.1.toNat (Ty.zero tTxn)).2.1, ((x.2.2.getD x.2.1.toNat (Ty.zero tTxn)).2.2.1, ((IntKind.wrap .i64 (x.1 + (1 : Int))), (x.2.2.getD x.2.1.toNat (Ty.zero tTxn)).2.2.2.2)))))) (fun z6 =>
 k (z6.1, z6.2.1, z6.2.2))
 else none
theorem vn7 (x : (Int × Int × (List dTxn))) : Par (vdt x) := by
  unfold vdt
  exact (vak ((vnx _).bind fun z6 => (vaa _)) vae)
def vdv (x : (Int × Int × (List dTxn))) (k : (Int × Int × (List dTxn)) → Option Res) : Option Res :=
 if 0 ≤ x.2.1 ∧ x.2.1 < (x.2.2.length : Int) then
 vdt ((IntKind.wrap .i64 (x.1 + (1 : Int))), x.2.1, (x.2.2.set x.2.1.toNat ((x.2.2.getD x.2.1.toNat (Ty.zero tTxn)).1, ((x.2.2.getD x.2.1.toNat (Ty.zero tTxn)).2.1, ((IntKind.wrap .i64 (x.1 + (1 : Int))), (x.2.2.getD x.2.1.toNat (Ty.zero tTxn)).2.2.2))))) (fun z5 =>
 k (z5.1, z5.2.1, z5.2.2))
 else none
theorem vnj (x : (Int × Int × (List dTxn))) : Par (vdv x) := by
  unfold vdv
  exact (vak ((vn7 _).bind fun z5 => (vaa _)) vae)
def vdu (x : (Int × Int × (List dTxn))) (k : (Int × Int × (List dTxn)) → Option Res) : Option Res :=
 if 0 ≤ x.2.1 ∧ x.2.1 < (x.2.2.length : Int) then
 vdv ((IntKind.wrap .i64 (x.1 + (1 : Int))), x.2.1, (x.2.2.set x.2.1.toNat ((x.2.2.getD x.2.1.toNat (Ty.zero tTxn)).1, ((IntKind.wrap .i64 (x.1 + (1 : Int))), (x.2.2.getD x.2.1.toNat (Ty.zero tTxn)).2.2)))) (fun z4 =>
 k (z4.1, z4.2.1, z4.2.2))
 else none
theorem voi (x : (Int × Int × (List dTxn))) : Par (vdu x) := by
  unfold vdu
  exact (vak ((vnj _).bind fun z4 => (vaa _)) vae)
def vji (x : (Int × Int × (List dTxn))) (k : (Int × Int × (List dTxn)) ⊕ (Int × Int × (List dTxn)) → Option Res) : Option Res :=
 bif (decide (x.2.1 < (x.2.2.length : Int))) then
 if 0 ≤ x.2.1 ∧ x.2.1 < (x.2.2.length : Int) then
 vdu (x.1, x.2.1, (x.2.2.set x.2.1.toNat (x.1, (x.2.2.getD x.2.1.toNat (Ty.zero tTxn)).2))) (fun z2 =>
 vdp (z2.1, z2.2.1, z2.2.2) (fun z3 =>
 k (.inl (z3.1, z3.2.1, z3.2.2))))
 else none
 else
 k (.inr (x.1, x.2.1, x.2.2))
theorem wb4 (x : (Int × Int × (List dTxn))) : Par (vji x) := by
  unfold vji
  exact (vab (vak ((voi _).bind fun z2 => ((vne _).bind fun z3 => (vaa _))) vae) (vaa _))
def wbs (a0 : Int) (a1 : (List dTxn)) (k : (Int × (List dTxn)) → Option Res) : Option Res :=
 vah vji Fuel (a0, (0 : Int), a1) (fun z1 =>
 k (z1.1, z1.2.2))
def vtq := shut wbs
theorem wly : vtq = wbs := vap _
theorem wee (a0 : Int) (a1 : (List dTxn)) : Par (vtq a0 a1) := by
  rw [wly]
  unfold wbs
  exact ((vau wb4 _ _).bind fun z1 => (vaa _))
def wau (a0 : Int) (a1 : Int) (a2 : Int) (a3 : (List vac)) (a4 : (List dTxn)) (a5 : (List dTxn)) (k : q41T → Option Res) : Option Res :=
 vzv a2 a3 (fun y1 =>
 vtq y1.1 a4 (fun y2 =>
 vtq y2.1 a5 (fun y3 =>
 k (y3.1, y1.2, y2.2, y3.2))))
def vzj := shut wau
theorem wf5 : vzj = wau := vap _
theorem wtp (a0 : Int) (a1 : Int) (a2 : Int) (a3 : (List vac)) (a4 : (List dTxn)) (a5 : (List dTxn)) : Par (vzj a0 a1 a2 a3 a4 a5) := by
  rw [wf5]
  unfold wau
  exact ((wt9 _ _).bind fun y1 => ((wee _ _).bind fun y2 => ((wee _ _).bind fun y3 => (vaa _))))
def wa6 (a0 : Int) (a1 : Int) (a2 : Int) (a3 : (List vac)) (a4 : (List dTxn)) (a5 : (List dTxn)) (a6 : (List dTxn)) (k : q40T → Option Res) : Option Res :=
 vzj a0 a1 a2 a3 a4 a5 (fun y1 =>
 vtq y1.1 a6 (fun y2 =>
 k (y2.1, y1.2.1, y1.2.2.1, y1.2.2.2, y2.2)))
def vn3 := shut wa6
theorem whh : vn3 = wa6 := vap _
theorem whc (a0 : Int) (a1 : Int) (a2 : Int) (a3 : (List vac)) (a4 : (List dTxn)) (a5 : (List dTxn)) (a6 : (List dTxn)) : Par (vn3 a0 a1 a2 a3 a4 a5 a6) := by
  rw [whh]
  unfold wa6
  exact ((wtp _ _ _ _ _ _).bind fun y1 => ((wee _ _).bind fun y2 => (vaa _)))
def vj6 (x : q15T) (k : q15T ⊕ (q15T ⊕ q15T) → Option Res) : Option Res :=
 bif (decide (x.2.2.2 < (x.1.length : Int))) then
 if 0 ≤ x.2.2.2 ∧ x.2.2.2 < (x.1.length : Int) then
 vck x.2.1 (fun y3 =>
 bif (!(vbd ((rd (Ty.zero tVersion) x.1 x.2.2.2).1) y3)) then
 k (.inr (.inl (x.1, x.2.1, (-1 : Int), x.2.2.2)))
 else
 if 0 ≤ x.2.2.2 ∧ x.2.2.2 < (x.1.length : Int) then
 vck (IntKind.wrap .i64 (x.2.1 + (1 : Int))) (fun y4 =>
 bif (!(vbd ((rd (Ty.zero tVersion) x.1 x.2.2.2).2.1) y4)) then
 k (.inr (.inl (x.1, (IntKind.wrap .i64 (x.2.1 + (1 : Int))), (-1 : Int), x.2.2.2)))
 else
 if 0 ≤ x.2.2.2 ∧ x.2.2.2 < (x.1.length : Int) then
 bif (!((rd (Ty.zero tVersion) x.1 x.2.2.2).2.2.1 == (((IntKind.wrap .i64 ((IntKind.wrap .i64 (x.2.1 + (1 : Int))) + (1 : Int))).tmod (3 : Int)) == (0 : Int)))) then
 k (.inr (.inl (x.1, (IntKind.wrap .i64 ((IntKind.wrap .i64 (x.2.1 + (1 : Int))) + (1 : Int))), (-1 : Int), x.2.2.2)))
 else
 if 0 ≤ x.2.2.2 ∧ x.2.2.2 < (x.1.length : Int) then
 bif ((rd (Ty.zero tVersion) x.1 x.2.2.2).2.2.2 != (IntKind.wrap .i64 ((IntKind.wrap .i64 ((IntKind.wrap .i64 (x.2.1 + (1 : Int))) + (1 : Int))) + (1 : Int)))) then
 k (.inr (.inl (x.1, (IntKind.wrap .i64 ((IntKind.wrap .i64 ((IntKind.wrap .i64 (x.2.1 + (1 : Int))) + (1 : Int))) + (1 : Int))), (-1 : Int), x.2.2.2)))
 else
 k (.inl (x.1, (IntKind.wrap .i64 ((IntKind.wrap .i64 ((IntKind.wrap .i64 ((IntKind.wrap .i64 (x.2.1 + (1 : Int))) + (1 : Int))) + (1 : Int))) + (1 : Int))), x.2.2.1, (IntKind.wrap .i64 (x.2.2.2 + (1 : Int)))))
 else none
 else none)
 else none)
 else none
 else
 k (.inr (.inr (x.1, x.2.1, x.2.2.1, x.2.2.2)))
theorem wbp (x : q15T) : Par (vj6 x) := by
  unfold vj6
  exact (vab (vak ((vhr _).bind fun y3 => (vab (vaa _) (vak ((vhr _).bind fun y4 => (vab (vaa _) (vak (vab (vaa _) (vak (vab (vaa _) (vaa _)) vae)) vae))) vae))) vae) (vaa _))
def wdt (a0 : (List vac)) (a1 : Int) (k : Int → Option Res) : Option Res :=
 vah vj6 Fuel (a0, a1, (0 : Int), (0 : Int)) (Sum.elim (fun z1 =>
 k z1.2.2.1) (fun z2 =>
 k z2.2.1))
def vvt := shut wdt
theorem wl7 : vvt = wdt := vap _
theorem wtq (a0 : (List vac)) (a1 : Int) : Par (vvt a0 a1) := by
  rw [wl7]
  unfold wdt
  exact ((vau wbp _ _).bind2 (fun z1 => (vaa _)) (fun z2 => (vaa _)))
def vkt (x : q4T) (k : q4T ⊕ (q4T ⊕ q4T) → Option Res) : Option Res :=
 bif (decide (x.2.2.2 < (x.1.length : Int))) then
 if 0 ≤ x.2.2.2 ∧ x.2.2.2 < (x.1.length : Int) then
 vck x.2.1 (fun y3 =>
 bif (!(vbd ((rd (Ty.zero tRange) x.1 x.2.2.2).1) y3)) then
 k (.inr (.inl (x.1, x.2.1, (-1 : Int), x.2.2.2)))
 else
 if 0 ≤ x.2.2.2 ∧ x.2.2.2 < (x.1.length : Int) then
 vck (IntKind.wrap .i64 (x.2.1 + (1 : Int))) (fun y4 =>
 bif (!(vbd ((rd (Ty.zero tRange) x.1 x.2.2.2).2) y4)) then
 k (.inr (.inl (x.1, (IntKind.wrap .i64 (x.2.1 + (1 : Int))), (-1 : Int), x.2.2.2)))
 else
 k (.inl (x.1, (IntKind.wrap .i64 ((IntKind.wrap .i64 (x.2.1 + (1 : Int))) + (1 : Int))), x.2.2.1, (IntKind.wrap .i64 (x.2.2.2 + (1 : Int))))))
 else none)
 else none
 else
 k (.inr (.inr (x.1, x.2.1, x.2.2.1, x.2.2.2)))
theorem wcy (x : q4T) : Par (vkt x) := by
  unfold vkt
  exact (vab (vak ((vhr _).bind fun y3 => (vab (vaa _) (vak ((vhr _).bind fun y4 => (vab (vaa _) (vaa _))) vae))) vae) (vaa _))
def wdv (a0 : (List van)) (a1 : Int) (k : Int → Option Res) : Option Res :=
 vah vkt Fuel (a0, a1, (0 : Int), (0 : Int)) (Sum.elim (fun z1 =>
 k z1.2.2.1) (fun z2 =>
 k z2.2.1))
def vtr := shut wdv
theorem wh5 : vtr = wdv := vap _
theorem wss (a0 : (List van)) (a1 : Int) : Par (vtr a0 a1) := by
  rw [wh5]
  unfold wdv
  exact ((vau wcy _ _).bind2 (fun z1 => (vaa _)) (fun z2 => (vaa _)))
def vjh (x : q19T) (k : q19T ⊕ (q19T ⊕ q19T) → Option Res) : Option Res :=
 bif (decide (x.2.2.2 < (x.1.length : Int))) then
 if 0 ≤ x.2.2.2 ∧ x.2.2.2 < (x.1.length : Int) then
 vck x.2.1 (fun y3 =>
 bif (!(vbd ((rd (Ty.zero tWrite) x.1 x.2.2.2).1) y3)) then
 k (.inr (.inl (x.1, x.2.1, (-1 : Int), x.2.2.2)))
 else
 if 0 ≤ x.2.2.2 ∧ x.2.2.2 < (x.1.length : Int) then
 vck (IntKind.wrap .i64 (x.2.1 + (1 : Int))) (fun y4 =>
 bif (!(vbd ((rd (Ty.zero tWrite) x.1 x.2.2.2).2.1) y4)) then
 k (.inr (.inl (x.1, (IntKind.wrap .i64 (x.2.1 + (1 : Int))), (-1 : Int), x.2.2.2)))
 else
 if 0 ≤ x.2.2.2 ∧ x.2.2.2 < (x.1.length : Int) then
 bif (!((rd (Ty.zero tWrite) x.1 x.2.2.2).2.2 == (((IntKind.wrap .i64 ((IntKind.wrap .i64 (x.2.1 + (1 : Int))) + (1 : Int))).tmod (3 : Int)) == (0 : Int)))) then
 k (.inr (.inl (x.1, (IntKind.wrap .i64 ((IntKind.wrap .i64 (x.2.1 + (1 : Int))) + (1 : Int))), (-1 : Int), x.2.2.2)))
 else
 k (.inl (x.1, (IntKind.wrap .i64 ((IntKind.wrap .i64 ((IntKind.wrap .i64 (x.2.1 + (1 : Int))) + (1 : Int))) + (1 : Int))), x.2.2.1, (IntKind.wrap .i64 (x.2.2.2 + (1 : Int)))))
 else none)
 else none)
 else none
 else
 k (.inr (.inr (x.1, x.2.1, x.2.2.1, x.2.2.2)))
theorem wbq (x : q19T) : Par (vjh x) := by
  unfold vjh
  exact (vab (vak ((vhr _).bind fun y3 => (vab (vaa _) (vak ((vhr _).bind fun y4 => (vab (vaa _) (vak (vab (vaa _) (vaa _)) vae))) vae))) vae) (vaa _))
def wdd (a0 : (List vaj)) (a1 : Int) (k : Int → Option Res) : Option Res :=
 vah vjh Fuel (a0, a1, (0 : Int), (0 : Int)) (Sum.elim (fun z1 =>
 k z1.2.2.1) (fun z2 =>
 k z2.2.1))
def vtm := shut wdd
theorem wle : vtm = wdd := vap _
theorem ws6 (a0 : (List vaj)) (a1 : Int) : Par (vtm a0 a1) := by
  rw [wle]
  unfold wdd
  exact ((vau wbq _ _).bind2 (fun z1 => (vaa _)) (fun z2 => (vaa _)))
def vkw (x : q10T) (k : q10T ⊕ (q10T ⊕ q10T) → Option Res) : Option Res :=
 bif (decide (x.2.2.2 < (x.1.length : Int))) then
 if 0 ≤ x.2.2.2 ∧ x.2.2.2 < (x.1.length : Int) then
 bif ((rd (Ty.zero tTxn) x.1 x.2.2.2).1 != x.2.1) then
 k (.inr (.inl (x.1, x.2.1, (-1 : Int), x.2.2.2)))
 else
 if 0 ≤ x.2.2.2 ∧ x.2.2.2 < (x.1.length : Int) then
 bif ((rd (Ty.zero tTxn) x.1 x.2.2.2).2.1 != (IntKind.wrap .i64 (x.2.1 + (1 : Int)))) then
 k (.inr (.inl (x.1, (IntKind.wrap .i64 (x.2.1 + (1 : Int))), (-1 : Int), x.2.2.2)))
 else
 if 0 ≤ x.2.2.2 ∧ x.2.2.2 < (x.1.length : Int) then
 bif ((rd (Ty.zero tTxn) x.1 x.2.2.2).2.2.1 != (IntKind.wrap .i64 ((IntKind.wrap .i64 (x.2.1 + (1 : Int))) + (1 : Int)))) then
 k (.inr (.inl (x.1, (IntKind.wrap .i64 ((IntKind.wrap .i64 (x.2.1 + (1 : Int))) + (1 : Int))), (-1 : Int), x.2.2.2)))
 else
 if 0 ≤ x.2.2.2 ∧ x.2.2.2 < (x.1.length : Int) then
 bif ((rd (Ty.zero tTxn) x.1 x.2.2.2).2.2.2.1 != (IntKind.wrap .i64 ((IntKind.wrap .i64 ((IntKind.wrap .i64 (x.2.1 + (1 : Int))) + (1 : Int))) + (1 : Int)))) then
 k (.inr (.inl (x.1, (IntKind.wrap .i64 ((IntKind.wrap .i64 ((IntKind.wrap .i64 (x.2.1 + (1 : Int))) + (1 : Int))) + (1 : Int))), (-1 : Int), x.2.2.2)))
 else
 if 0 ≤ x.2.2.2 ∧ x.2.2.2 < (x.1.length : Int) then
 vtr ((rd (Ty.zero tTxn) x.1 x.2.2.2).2.2.2.2.1) (IntKind.wrap .i64 ((IntKind.wrap .i64 ((IntKind.wrap .i64 ((IntKind.wrap .i64 (x.2.1 + (1 : Int))) + (1 : Int))) + (1 : Int))) + (1 : Int))) (fun y3 =>
 bif (decide (y3 < (0 : Int))) then
 k (.inr (.inl (x.1, y3, (-1 : Int), x.2.2.2)))
 else
 if 0 ≤ x.2.2.2 ∧ x.2.2.2 < (x.1.length : Int) then
 vtm ((rd (Ty.zero tTxn) x.1 x.2.2.2).2.2.2.2.2.1) y3 (fun y4 =>
 bif (decide (y4 < (0 : Int))) then
 k (.inr (.inl (x.1, y4, (-1 : Int), x.2.2.2)))
 else
 if 0 ≤ x.2.2.2 ∧ x.2.2.2 < (x.1.length : Int) then
 bif (!((rd (Ty.zero tTxn) x.1 x.2.2.2).2.2.2.2.2.2.1 == ((y4.tmod (3 : Int)) == (0 : Int)))) then
 k (.inr (.inl (x.1, y4, (-1 : Int), x.2.2.2)))
 else
 if 0 ≤ x.2.2.2 ∧ x.2.2.2 < (x.1.length : Int) then
 vck (IntKind.wrap .i64 (y4 + (1 : Int))) (fun y5 =>
 bif (!(vbd ((rd (Ty.zero tTxn) x.1 x.2.2.2).2.2.2.2.2.2.2) y5)) then
 k (.inr (.inl (x.1, (IntKind.wrap .i64 (y4 + (1 : Int))), (-1 : Int), x.2.2.2)))
 else
 k (.inl (x.1, (IntKind.wrap .i64 ((IntKind.wrap .i64 (y4 + (1 : Int))) + (1 : Int))), x.2.2.1, (IntKind.wrap .i64 (x.2.2.2 + (1 : Int))))))
 else none
 else none)
 else none)
 else none
 else none
 else none
 else none
 else none
 else
 k (.inr (.inr (x.1, x.2.1, x.2.2.1, x.2.2.2)))
theorem wba (x : q10T) : Par (vkw x) := by
  unfold vkw
  exact (vab (vak (vab (vaa _) (vak (vab (vaa _) (vak (vab (vaa _) (vak (vab (vaa _) (vak ((wss _ _).bind fun y3 => (vab (vaa _) (vak ((ws6 _ _).bind fun y4 => (vab (vaa _) (vak (vab (vaa _) (vak ((vhr _).bind fun y5 => (vab (vaa _) (vaa _))) vae)) vae))) vae))) vae)) vae)) vae)) vae)) vae) (vaa _))
def wab (a0 : (List dTxn)) (a1 : Int) (k : Int → Option Res) : Option Res :=
 vah vkw Fuel (a0, a1, (0 : Int), (0 : Int)) (Sum.elim (fun z1 =>
 k z1.2.2.1) (fun z2 =>
 k z2.2.1))
def vre := shut wab
theorem wjh : vre = wab := vap _
theorem wel (a0 : (List dTxn)) (a1 : Int) : Par (vre a0 a1) := by
  rw [wjh]
  unfold wab
  exact ((vau wba _ _).bind2 (fun z1 => (vaa _)) (fun z2 => (vaa _)))
def wb5 (a0 : vha) (a1 : Int) (k : Int → Option Res) : Option Res :=
 vvt a0.1 a1 (fun y1 =>
 bif (decide (y1 < (0 : Int))) then
 k (-1 : Int)
 else
 vre a0.2.1 y1 (fun y2 =>
 bif (decide (y2 < (0 : Int))) then
 k (-1 : Int)
 else
 vre a0.2.2.1 y2 (fun y3 =>
 bif (decide (y3 < (0 : Int))) then
 k (-1 : Int)
 else
 k y3)))
def v0o := shut wb5
theorem wma : v0o = wb5 := vap _
theorem wtl (a0 : vha) (a1 : Int) : Par (v0o a0 a1) := by
  rw [wma]
  unfold wb5
  exact ((wtq _ _).bind fun y1 => (vab (vaa _) ((wel _ _).bind fun y2 => (vab (vaa _) ((wel _ _).bind fun y3 => (vab (vaa _) (vaa _)))))))
def wc2 (a0 : va7) (a1 : Int) (k : Int → Option Res) : Option Res :=
 v0o a0.1 a1 (fun y1 =>
 bif (decide (y1 < (0 : Int))) then
 k (-1 : Int)
 else
 vre a0.2 y1 (fun y2 =>
 bif (decide (y2 < (0 : Int))) then
 k (-1 : Int)
 else
 k y2))
def vom := shut wc2
theorem wjv : vom = wc2 := vap _
theorem wf6 (a0 : va7) (a1 : Int) : Par (vom a0 a1) := by
  rw [wjv]
  unfold wc2
  exact ((wtl _ _).bind fun y1 => (vab (vaa _) ((wel _ _).bind fun y2 => (vab (vaa _) (vaa _)))))
def vc4 (x : q35T) (k : q35T → Option Res) : Option Res :=
 vom ((x.2.2.2.2.1, (x.2.2.2.2.2.1, (x.2.2.2.2.2.2.1, (x.2.2.1, x.2.2.2.1)))), x.2.2.2.2.2.2.2) (1 : Int) (fun y22 =>
 bif (decide (y22 < (0 : Int))) then
 k (false, x.2.1, x.2.2.1, x.2.2.2.1, x.2.2.2.2.1, x.2.2.2.2.2.1, x.2.2.2.2.2.2.1, x.2.2.2.2.2.2.2)
 else
 bif (y22 != x.2.1) then
 k (false, x.2.1, x.2.2.1, x.2.2.2.1, x.2.2.2.2.1, x.2.2.2.2.2.1, x.2.2.2.2.2.2.1, x.2.2.2.2.2.2.2)
 else
 k (true, x.2.1, x.2.2.1, x.2.2.2.1, x.2.2.2.2.1, x.2.2.2.2.2.1, x.2.2.2.2.2.2.1, x.2.2.2.2.2.2.2))
theorem vor (x : q35T) : Par (vc4 x) := by
  unfold vc4
  exact ((wf6 _ _).bind fun y22 => (vab (vaa _) (vab (vaa _) (vaa _))))
def vcy (x : q34T) (k : (q34T ⊕ q31T) → Option Res) : Option Res :=
 vn3 x.2.2.2.2.2.2.2.2.2.2.2.1 x.2.2.2.2.2.2.2.2.2.2.2.2.1 (1 : Int) x.2.2.2.2.2.2.2.2.2.2.2.2.2.2.2.2.2.1 x.2.2.2.2.2.2.2.2.2.2.2.2.2.2.2.2.2.2.1 x.2.2.2.2.2.2.2.2.2.2.2.2.2.2.2.2.2.2.2.1 x.2.2.2.2.2.2.2.2.2.2.2.2.2.2.2.2.2.2.2.2 (fun y16 =>
 vom ((y16.2.1, (y16.2.2.1, (y16.2.2.2.1, (x.2.2.2.2.2.2.2.2.2.2.2.1, x.2.2.2.2.2.2.2.2.2.2.2.2.1)))), y16.2.2.2.2) (1 : Int) (fun y17 =>
 bif (decide (y17 < (0 : Int))) then
 k (.inl (false, x.2.1, x.2.2.1, x.2.2.2.1, x.2.2.2.2.1, x.2.2.2.2.2.1, x.2.2.2.2.2.2.1, x.2.2.2.2.2.2.2.1, x.2.2.2.2.2.2.2.2.1, x.2.2.2.2.2.2.2.2.2.1, x.2.2.2.2.2.2.2.2.2.2.1, x.2.2.2.2.2.2.2.2.2.2.2.1, x.2.2.2.2.2.2.2.2.2.2.2.2.1, x.2.2.2.2.2.2.2.2.2.2.2.2.2.1, x.2.2.2.2.2.2.2.2.2.2.2.2.2.2.1, x.2.2.2.2.2.2.2.2.2.2.2.2.2.2.2.1, x.2.2.2.2.2.2.2.2.2.2.2.2.2.2.2.2.1, y16.2.1, y16.2.2.1, y16.2.2.2.1, y16.2.2.2.2))
 else
 bif (y17 != y16.1) then
 k (.inl (false, x.2.1, x.2.2.1, x.2.2.2.1, x.2.2.2.2.1, x.2.2.2.2.2.1, x.2.2.2.2.2.2.1, x.2.2.2.2.2.2.2.1, x.2.2.2.2.2.2.2.2.1, x.2.2.2.2.2.2.2.2.2.1, x.2.2.2.2.2.2.2.2.2.2.1, x.2.2.2.2.2.2.2.2.2.2.2.1, x.2.2.2.2.2.2.2.2.2.2.2.2.1, x.2.2.2.2.2.2.2.2.2.2.2.2.2.1, x.2.2.2.2.2.2.2.2.2.2.2.2.2.2.1, x.2.2.2.2.2.2.2.2.2.2.2.2.2.2.2.1, x.2.2.2.2.2.2.2.2.2.2.2.2.2.2.2.2.1, y16.2.1, y16.2.2.1, y16.2.2.2.1, y16.2.2.2.2))
 else
 via ((x.2.2.2.1, (x.2.2.2.2.1, (x.2.2.2.2.2.1, (x.2.2.2.2.2.2.1, x.2.2.2.2.2.2.2.1)))), x.2.2.2.2.2.2.2.2.1) (fun y18 =>
 vrd ((y18.2.2.1, (y18.2.2.2.1, (y18.2.2.2.2.1, (y18.1, y18.2.1)))), y18.2.2.2.2.2) (fun y19 =>
 vhq ((y19.2.2.2.2.1, (y19.2.2.2.2.2.1, (y19.2.2.2.2.2.2.1, (y19.1, y19.2.1)))), y19.2.2.2.2.2.2.2) ((x.2.2.2.2.2.2.2.2.2.2.2.2.2.1, (x.2.2.2.2.2.2.2.2.2.2.2.2.2.2.1, (x.2.2.2.2.2.2.2.2.2.2.2.2.2.2.2.1, (x.2.2.2.2.2.2.2.2.2.1, x.2.2.2.2.2.2.2.2.2.2.1)))), x.2.2.2.2.2.2.2.2.2.2.2.2.2.2.2.2.1) (fun y20 =>
 bif (!y20) then
 k (.inl (false, x.2.1, x.2.2.1, x.2.2.2.1, x.2.2.2.2.1, x.2.2.2.2.2.1, x.2.2.2.2.2.2.1, x.2.2.2.2.2.2.2.1, x.2.2.2.2.2.2.2.2.1, x.2.2.2.2.2.2.2.2.2.1, x.2.2.2.2.2.2.2.2.2.2.1, x.2.2.2.2.2.2.2.2.2.2.2.1, x.2.2.2.2.2.2.2.2.2.2.2.2.1, x.2.2.2.2.2.2.2.2.2.2.2.2.2.1, x.2.2.2.2.2.2.2.2.2.2.2.2.2.2.1, x.2.2.2.2.2.2.2.2.2.2.2.2.2.2.2.1, x.2.2.2.2.2.2.2.2.2.2.2.2.2.2.2.2.1, y16.2.1, y16.2.2.1, y16.2.2.2.1, y16.2.2.2.2))
 else
 bif (y19.2.2.1 != x.2.1) then
 k (.inl (false, x.2.1, x.2.2.1, x.2.2.2.1, x.2.2.2.2.1, x.2.2.2.2.2.1, x.2.2.2.2.2.2.1, x.2.2.2.2.2.2.2.1, x.2.2.2.2.2.2.2.2.1, x.2.2.2.2.2.2.2.2.2.1, x.2.2.2.2.2.2.2.2.2.2.1, x.2.2.2.2.2.2.2.2.2.2.2.1, x.2.2.2.2.2.2.2.2.2.2.2.2.1, x.2.2.2.2.2.2.2.2.2.2.2.2.2.1, x.2.2.2.2.2.2.2.2.2.2.2.2.2.2.1, x.2.2.2.2.2.2.2.2.2.2.2.2.2.2.2.1, x.2.2.2.2.2.2.2.2.2.2.2.2.2.2.2.2.1, y16.2.1, y16.2.2.1, y16.2.2.2.1, y16.2.2.2.2))
 else
 bif (y19.2.2.2.1 != x.2.2.1) then
 k (.inl (false, x.2.1, x.2.2.1, x.2.2.2.1, x.2.2.2.2.1, x.2.2.2.2.2.1, x.2.2.2.2.2.2.1, x.2.2.2.2.2.2.2.1, x.2.2.2.2.2.2.2.2.1, x.2.2.2.2.2.2.2.2.2.1, x.2.2.2.2.2.2.2.2.2.2.1, x.2.2.2.2.2.2.2.2.2.2.2.1, x.2.2.2.2.2.2.2.2.2.2.2.2.1, x.2.2.2.2.2.2.2.2.2.2.2.2.2.1, x.2.2.2.2.2.2.2.2.2.2.2.2.2.2.1, x.2.2.2.2.2.2.2.2.2.2.2.2.2.2.2.1, x.2.2.2.2.2.2.2.2.2.2.2.2.2.2.2.2.1, y16.2.1, y16.2.2.1, y16.2.2.2.1, y16.2.2.2.2))
 else
 vc4 (x.1, y16.1, x.2.2.2.2.2.2.2.2.2.2.2.1, x.2.2.2.2.2.2.2.2.2.2.2.2.1, y16.2.1, y16.2.2.1, y16.2.2.2.1, y16.2.2.2.2) (fun z21 =>
 k (.inr (z21.1, z21.2.2.1, z21.2.2.2.1, z21.2.2.2.2.1, z21.2.2.2.2.2.1, z21.2.2.2.2.2.2.1, z21.2.2.2.2.2.2.2))))))))
theorem vn5 (x : q34T) : Par (vcy x) := by
  unfold vcy
  exact ((whc _ _ _ _ _ _ _).bind fun y16 => ((wf6 _ _).bind fun y17 => (vab (vaa _) (vab (vaa _) ((v5k _).bind fun y18 => ((wgx _).bind fun y19 => ((v5q _ _).bind fun y20 => (vab (vaa _) (vab (vaa _) (vab (vaa _) ((vor _).bind fun z21 => (vaa _))))))))))))
def vc6 (x : q37T) (k : (q37T ⊕ (q34T ⊕ q31T)) → Option Res) : Option Res :=
 via ((x.2.2.2.2.2.1, (x.2.2.2.2.2.2.1, (x.2.2.2.2.2.2.2.1, (x.2.2.2.2.2.2.2.2.1, x.2.2.2.2.2.2.2.2.2.1)))), x.2.2.2.2.2.2.2.2.2.2.1) (fun y10 =>
 vhq ((x.2.2.2.2.2.2.2.2.2.2.2.2.2.2.2.2.2.2.2.2.2.1, (x.2.2.2.2.2.2.2.2.2.2.2.2.2.2.2.2.2.2.2.2.2.2.1, (x.2.2.2.2.2.2.2.2.2.2.2.2.2.2.2.2.2.2.2.2.2.2.2.1, (x.2.2.2.2.2.2.2.2.2.2.2.2.2.1, x.2.2.2.2.2.2.2.2.2.2.2.2.2.2.1)))), x.2.2.2.2.2.2.2.2.2.2.2.2.2.2.2.2.2.2.2.2.2.2.2.2.1) ((y10.2.2.1, (y10.2.2.2.1, (y10.2.2.2.2.1, (y10.1, y10.2.1)))), y10.2.2.2.2.2) (fun y11 =>
 bif (!y11) then
 k (.inl (false, x.2.1, x.2.2.1, x.2.2.2.1, x.2.2.2.2.1, x.2.2.2.2.2.1, x.2.2.2.2.2.2.1, x.2.2.2.2.2.2.2.1, x.2.2.2.2.2.2.2.2.1, x.2.2.2.2.2.2.2.2.2.1, x.2.2.2.2.2.2.2.2.2.2.1, x.2.2.2.2.2.2.2.2.2.2.2.1, x.2.2.2.2.2.2.2.2.2.2.2.2.1, x.2.2.2.2.2.2.2.2.2.2.2.2.2.1, x.2.2.2.2.2.2.2.2.2.2.2.2.2.2.1, x.2.2.2.2.2.2.2.2.2.2.2.2.2.2.2.1, x.2.2.2.2.2.2.2.2.2.2.2.2.2.2.2.2.1, x.2.2.2.2.2.2.2.2.2.2.2.2.2.2.2.2.2.1, x.2.2.2.2.2.2.2.2.2.2.2.2.2.2.2.2.2.2.1, x.2.2.2.2.2.2.2.2.2.2.2.2.2.2.2.2.2.2.2.1, x.2.2.2.2.2.2.2.2.2.2.2.2.2.2.2.2.2.2.2.2.1, x.2.2.2.2.2.2.2.2.2.2.2.2.2.2.2.2.2.2.2.2.2.1, x.2.2.2.2.2.2.2.2.2.2.2.2.2.2.2.2.2.2.2.2.2.2.1, x.2.2.2.2.2.2.2.2.2.2.2.2.2.2.2.2.2.2.2.2.2.2.2.1, x.2.2.2.2.2.2.2.2.2.2.2.2.2.2.2.2.2.2.2.2.2.2.2.2.1, x.2.2.2.2.2.2.2.2.2.2.2.2.2.2.2.2.2.2.2.2.2.2.2.2.2.1, x.2.2.2.2.2.2.2.2.2.2.2.2.2.2.2.2.2.2.2.2.2.2.2.2.2.2.1, x.2.2.2.2.2.2.2.2.2.2.2.2.2.2.2.2.2.2.2.2.2.2.2.2.2.2.2.1, x.2.2.2.2.2.2.2.2.2.2.2.2.2.2.2.2.2.2.2.2.2.2.2.2.2.2.2.2))
 else
 vn3 x.2.2.2.2.2.2.2.2.2.2.2.2.2.1 x.2.2.2.2.2.2.2.2.2.2.2.2.2.2.1 (1 : Int) x.2.2.2.2.2.2.2.2.2.2.2.2.2.2.2.2.2.2.2.2.2.1 x.2.2.2.2.2.2.2.2.2.2.2.2.2.2.2.2.2.2.2.2.2.2.1 x.2.2.2.2.2.2.2.2.2.2.2.2.2.2.2.2.2.2.2.2.2.2.2.1 x.2.2.2.2.2.2.2.2.2.2.2.2.2.2.2.2.2.2.2.2.2.2.2.2.1 (fun y12 =>
 bif (decide (y12.1 < (0 : Int))) then
 k (.inl (false, x.2.1, x.2.2.1, x.2.2.2.1, x.2.2.2.2.1, x.2.2.2.2.2.1, x.2.2.2.2.2.2.1, x.2.2.2.2.2.2.2.1, x.2.2.2.2.2.2.2.2.1, x.2.2.2.2.2.2.2.2.2.1, x.2.2.2.2.2.2.2.2.2.2.1, x.2.2.2.2.2.2.2.2.2.2.2.1, x.2.2.2.2.2.2.2.2.2.2.2.2.1, x.2.2.2.2.2.2.2.2.2.2.2.2.2.1, x.2.2.2.2.2.2.2.2.2.2.2.2.2.2.1, x.2.2.2.2.2.2.2.2.2.2.2.2.2.2.2.1, x.2.2.2.2.2.2.2.2.2.2.2.2.2.2.2.2.1, x.2.2.2.2.2.2.2.2.2.2.2.2.2.2.2.2.2.1, x.2.2.2.2.2.2.2.2.2.2.2.2.2.2.2.2.2.2.1, x.2.2.2.2.2.2.2.2.2.2.2.2.2.2.2.2.2.2.2.1, x.2.2.2.2.2.2.2.2.2.2.2.2.2.2.2.2.2.2.2.2.1, y12.2.1, y12.2.2.1, y12.2.2.2.1, y12.2.2.2.2, x.2.2.2.2.2.2.2.2.2.2.2.2.2.2.2.2.2.2.2.2.2.2.2.2.2.1, x.2.2.2.2.2.2.2.2.2.2.2.2.2.2.2.2.2.2.2.2.2.2.2.2.2.2.1, x.2.2.2.2.2.2.2.2.2.2.2.2.2.2.2.2.2.2.2.2.2.2.2.2.2.2.2.1, x.2.2.2.2.2.2.2.2.2.2.2.2.2.2.2.2.2.2.2.2.2.2.2.2.2.2.2.2))
 else
 vhq ((x.2.2.2.2.2.2.2.2.2.2.2.2.2.2.2.2.2.2.2.2.2.2.2.2.2.1, (x.2.2.2.2.2.2.2.2.2.2.2.2.2.2.2.2.2.2.2.2.2.2.2.2.2.2.1, (x.2.2.2.2.2.2.2.2.2.2.2.2.2.2.2.2.2.2.2.2.2.2.2.2.2.2.2.1, (x.2.2.2.2.2.2.2.2.2.2.2.2.2.2.2.1, x.2.2.2.2.2.2.2.2.2.2.2.2.2.2.2.2.1)))), x.2.2.2.2.2.2.2.2.2.2.2.2.2.2.2.2.2.2.2.2.2.2.2.2.2.2.2.2) ((x.2.2.2.2.2.2.2.2.2.2.2.2.2.2.2.2.2.1, (x.2.2.2.2.2.2.2.2.2.2.2.2.2.2.2.2.2.2.1, (x.2.2.2.2.2.2.2.2.2.2.2.2.2.2.2.2.2.2.2.1, (x.2.2.2.2.2.2.2.2.2.2.2.1, x.2.2.2.2.2.2.2.2.2.2.2.2.1)))), x.2.2.2.2.2.2.2.2.2.2.2.2.2.2.2.2.2.2.2.2.1) (fun y13 =>
 bif (!y13) then
 k (.inl (false, x.2.1, x.2.2.1, x.2.2.2.1, x.2.2.2.2.1, x.2.2.2.2.2.1, x.2.2.2.2.2.2.1, x.2.2.2.2.2.2.2.1, x.2.2.2.2.2.2.2.2.1, x.2.2.2.2.2.2.2.2.2.1, x.2.2.2.2.2.2.2.2.2.2.1, x.2.2.2.2.2.2.2.2.2.2.2.1, x.2.2.2.2.2.2.2.2.2.2.2.2.1, x.2.2.2.2.2.2.2.2.2.2.2.2.2.1, x.2.2.2.2.2.2.2.2.2.2.2.2.2.2.1, x.2.2.2.2.2.2.2.2.2.2.2.2.2.2.2.1, x.2.2.2.2.2.2.2.2.2.2.2.2.2.2.2.2.1, x.2.2.2.2.2.2.2.2.2.2.2.2.2.2.2.2.2.1, x.2.2.2.2.2.2.2.2.2.2.2.2.2.2.2.2.2.2.1, x.2.2.2.2.2.2.2.2.2.2.2.2.2.2.2.2.2.2.2.1, x.2.2.2.2.2.2.2.2.2.2.2.2.2.2.2.2.2.2.2.2.1, y12.2.1, y12.2.2.1, y12.2.2.2.1, y12.2.2.2.2, x.2.2.2.2.2.2.2.2.2.2.2.2.2.2.2.2.2.2.2.2.2.2.2.2.2.1, x.2.2.2.2.2.2.2.2.2.2.2.2.2.2.2.2.2.2.2.2.2.2.2.2.2.2.1, x.2.2.2.2.2.2.2.2.2.2.2.2.2.2.2.2.2.2.2.2.2.2.2.2.2.2.2.1, x.2.2.2.2.2.2.2.2.2.2.2.2.2.2.2.2.2.2.2.2.2.2.2.2.2.2.2.2))
 else
 bif (x.2.2.2.1 != x.2.1) then
 k (.inl (false, x.2.1, x.2.2.1, x.2.2.2.1, x.2.2.2.2.1, x.2.2.2.2.2.1, x.2.2.2.2.2.2.1, x.2.2.2.2.2.2.2.1, x.2.2.2.2.2.2.2.2.1, x.2.2.2.2.2.2.2.2.2.1, x.2.2.2.2.2.2.2.2.2.2.1, x.2.2.2.2.2.2.2.2.2.2.2.1, x.2.2.2.2.2.2.2.2.2.2.2.2.1, x.2.2.2.2.2.2.2.2.2.2.2.2.2.1, x.2.2.2.2.2.2.2.2.2.2.2.2.2.2.1, x.2.2.2.2.2.2.2.2.2.2.2.2.2.2.2.1, x.2.2.2.2.2.2.2.2.2.2.2.2.2.2.2.2.1, x.2.2.2.2.2.2.2.2.2.2.2.2.2.2.2.2.2.1, x.2.2.2.2.2.2.2.2.2.2.2.2.2.2.2.2.2.2.1, x.2.2.2.2.2.2.2.2.2.2.2.2.2.2.2.2.2.2.2.1, x.2.2.2.2.2.2.2.2.2.2.2.2.2.2.2.2.2.2.2.2.1, y12.2.1, y12.2.2.1, y12.2.2.2.1, y12.2.2.2.2, x.2.2.2.2.2.2.2.2.2.2.2.2.2.2.2.2.2.2.2.2.2.2.2.2.2.1, x.2.2.2.2.2.2.2.2.2.2.2.2.2.2.2.2.2.2.2.2.2.2.2.2.2.2.1, x.2.2.2.2.2.2.2.2.2.2.2.2.2.2.2.2.2.2.2.2.2.2.2.2.2.2.2.1, x.2.2.2.2.2.2.2.2.2.2.2.2.2.2.2.2.2.2.2.2.2.2.2.2.2.2.2.2))
 else
 bif (x.2.2.2.2.1 != x.2.2.1) then
 k (.inl (false, x.2.1, x.2.2.1, x.2.2.2.1, x.2.2.2.2.1, x.2.2.2.2.2.1, x.2.2.2.2.2.2.1, x.2.2.2.2.2.2.2.1, x.2.2.2.2.2.2.2.2.1, x.2.2.2.2.2.2.2.2.2.1, x.2.2.2.2.2.2.2.2.2.2.1, x.2.2.2.2.2.2.2.2.2.2.2.1, x.2.2.2.2.2.2.2.2.2.2.2.2.1, x.2.2.2.2.2.2.2.2.2.2.2.2.2.1, x.2.2.2.2.2.2.2.2.2.2.2.2.2.2.1, x.2.2.2.2.2.2.2.2.2.2.2.2.2.2.2.1, x.2.2.2.2.2.2.2.2.2.2.2.2.2.2.2.2.1, x.2.2.2.2.2.2.2.2.2.2.2.2.2.2.2.2.2.1, x.2.2.2.2.2.2.2.2.2.2.2.2.2.2.2.2.2.2.1, x.2.2.2.2.2.2.2.2.2.2.2.2.2.2.2.2.2.2.2.1, x.2.2.2.2.2.2.2.2.2.2.2.2.2.2.2.2.2.2.2.2.1, y12.2.1, y12.2.2.1, y12.2.2.2.1, y12.2.2.2.2, x.2.2.2.2.2.2.2.2.2.2.2.2.2.2.2.2.2.2.2.2.2.2.2.2.2.1, x.2.2.2.2.2.2.2.2.2.2.2.2.2.2.2.2.2.2.2.2.2.2.2.2.2.2.1, x.2.2.2.2.2.2.2.2.2.2.2.2.2.2.2.2.2.2.2.2.2.2.2.2.2.2.2.1, x.2.2.2.2.2.2.2.2.2.2.2.2.2.2.2.2.2.2.2.2.2.2.2.2.2.2.2.2))
 else
 vcy (x.1, x.2.1, x.2.2.1, x.2.2.2.2.2.1, x.2.2.2.2.2.2.1, x.2.2.2.2.2.2.2.1, x.2.2.2.2.2.2.2.2.1, x.2.2.2.2.2.2.2.2.2.1, x.2.2.2.2.2.2.2.2.2.2.1, x.2.2.2.2.2.2.2.2.2.2.2.1, x.2.2.2.2.2.2.2.2.2.2.2.2.1, x.2.2.2.2.2.2.2.2.2.2.2.2.2.2.2.1, x.2.2.2.2.2.2.2.2.2.2.2.2.2.2.2.2.1, x.2.2.2.2.2.2.2.2.2.2.2.2.2.2.2.2.2.1, x.2.2.2.2.2.2.2.2.2.2.2.2.2.2.2.2.2.2.1, x.2.2.2.2.2.2.2.2.2.2.2.2.2.2.2.2.2.2.2.1, x.2.2.2.2.2.2.2.2.2.2.2.2.2.2.2.2.2.2.2.2.1, x.2.2.2.2.2.2.2.2.2.2.2.2.2.2.2.2.2.2.2.2.2.2.2.2.2.1, x.2.2.2.2.2.2.2.2.2.2.2.2.2.2.2.2.2.2.2.2.2.2.2.2.2.2.1, x.2.2.2.2.2.2.2.2.2.2.2.2.2.2.2.2.2.2.2.2.2.2.2.2.2.2.2.1, x.2.2.2.2.2.2.2.2.2.2.2.2.2.2.2.2.2.2.2.2.2.2.2.2.2.2.2.2) (Sum.elim (fun z14 =>
 k (.inr (.inl (z14.1, z14.2.1, z14.2.2.1, z14.2.2.2.1, z14.2.2.2.2.1, z14.2.2.2.2.2.1, z14.2.2.2.2.2.2.1, z14.2.2.2.2.2.2.2.1, z14.2.2.2.2.2.2.2.2.1, z14.2.2.2.2.2.2.2.2.2.1, z14.2.2.2.2.2.2.2.2.2.2.1, z14.2.2.2.2.2.2.2.2.2.2.2.1, z14.2.2.2.2.2.2.2.2.2.2.2.2.1, z14.2.2.2.2.2.2.2.2.2.2.2.2.2.1, z14.2.2.2.2.2.2.2.2.2.2.2.2.2.2.1, z14.2.2.2.2.2.2.2.2.2.2.2.2.2.2.2.1, z14.2.2.2.2.2.2.2.2.2.2.2.2.2.2.2.2.1, z14.2.2.2.2.2.2.2.2.2.2.2.2.2.2.2.2.2.1, z14.2.2.2.2.2.2.2.2.2.2.2.2.2.2.2.2.2.2.1, z14.2.2.2.2.2.2.2.2.2.2.2.2.2.2.2.2.2.2.2.1, z14.2.2.2.2.2.2.2.2.2.2.2.2.2.2.2.2.2.2.2.2)))) (fun z15 =>
 k (.inr (.inr (z15.1, z15.2.1, z15.2.2.1, z15.2.2.2.1, z15.2.2.2.2.1, z15.2.2.2.2.2.1, z15.2.2.2.2.2.2)))))))))
theorem vou (x : q37T) : Par (vc6 x) := by
  unfold vc6
  exact ((v5k _).bind fun y10 => ((v5q _ _).bind fun y11 => (vab (vaa _) ((whc _ _ _ _ _ _ _).bind fun y12 => (vab (vaa _) ((v5q _ _).bind fun y13 => (vab (vaa _) (vab (vaa _) (vab (vaa _) ((vn5 _).bind2 (fun z14 => (vaa _)) (fun z15 => (vaa _))))))))))))
def wej (a0 : va7) (k : Bool → Option Res) : Option Res :=
 vun a0 (1048576 : Int) (fun y1 =>
 bif (decide (y1 < (0 : Int))) then
 k true
 else
 via a0 (fun y2 =>
 vv2 ((y2.2.2.1, (y2.2.2.2.1, (y2.2.2.2.2.1, (y2.1, y2.2.1)))), y2.2.2.2.2.2) (fun y3 =>
 via a0 (fun y4 =>
 vrd ((y4.2.2.1, (y4.2.2.2.1, (y4.2.2.2.2.1, (y4.1, y4.2.1)))), y4.2.2.2.2.2) (fun y5 =>
 vhq ((y5.2.2.2.2.1, (y5.2.2.2.2.2.1, (y5.2.2.2.2.2.2.1, (y5.1, y5.2.1)))), y5.2.2.2.2.2.2.2) ((y3.2.2.2.2.1, (y3.2.2.2.2.2.1, (y3.2.2.2.2.2.2.1, (y3.1, y3.2.1)))), y3.2.2.2.2.2.2.2) (fun y6 =>
 bif (!y6) then
 k false
 else
 bif (y5.2.2.1 != y3.2.2.1) then
 k false
 else
 bif (y5.2.2.2.1 != y3.2.2.2.1) then
 k false
 else
 vc6 (false, y3.2.2.1, y3.2.2.2.1, y5.2.2.1, y5.2.2.2.1, a0.1.1, a0.1.2.1, a0.1.2.2.1, a0.1.2.2.2.1, a0.1.2.2.2.2, a0.2, y3.1, y3.2.1, y4.1, y4.2.1, y5.1, y5.2.1, y3.2.2.2.2.1, y3.2.2.2.2.2.1, y3.2.2.2.2.2.2.1, y3.2.2.2.2.2.2.2, y4.2.2.1, y4.2.2.2.1, y4.2.2.2.2.1, y4.2.2.2.2.2, y5.2.2.2.2.1, y5.2.2.2.2.2.1, y5.2.2.2.2.2.2.1, y5.2.2.2.2.2.2.2) (Sum.elim (fun z7 =>
 k z7.1) (Sum.elim (fun z8 =>
 k z8.1) (fun z9 =>
 k z9.1)))))))))
def v0j := shut wej
theorem wf3 : v0j = wej := vap _
theorem wz0 (a0 : va7) : Par (v0j a0) := by
  rw [wf3]
  unfold wej
  exact ((wtj _ _).bind fun y1 => (vab (vaa _) ((v5k _).bind fun y2 => ((wtm _).bind fun y3 => ((v5k _).bind fun y4 => ((wgx _).bind fun y5 => ((v5q _ _).bind fun y6 => (vab (vaa _) (vab (vaa _) (vab (vaa _) ((vou _).bind2 (fun z7 => (vaa _)) (fun q => wmy (fun z8 => (vaa _)) (fun z9 => (vaa _)) q))))))))))))
def wj8 (args : List AV) (st : St) (k : K1) : Option Res :=
 vam [.agg [.str, .str, .bool, .int .i64], .int .i64] [] args st (fun p q => vw0 (p.1.1, (p.1.2.1, (p.1.2.2.1, p.1.2.2.2.1))) p.2.1 (fun (y : Int) => k (.int .i64 y) []))
 (none)
def wl0 (args : List AV) (st : St) (k : K1) : Option Res :=
 vam [.lst tVersion, .int .i64] [] args st (fun p q => vzm p.1 p.2.1 (fun (y : Int) => k (.int .i64 y) []))
 (none)
def wk9 (args : List AV) (st : St) (k : K1) : Option Res :=
 vam [.agg [.str, .str], .int .i64] [] args st (fun p q => vw8 (p.1.1, p.1.2.1) p.2.1 (fun (y : Int) => k (.int .i64 y) []))
 (none)
def wlu (args : List AV) (st : St) (k : K1) : Option Res :=
 vam [.lst tRange, .int .i64] [] args st (fun p q => vzo p.1 p.2.1 (fun (y : Int) => k (.int .i64 y) []))
 (none)
def wh8 (args : List AV) (st : St) (k : K1) : Option Res :=
 vam [.agg [.str, .str, .bool], .int .i64] [] args st (fun p q => vv1 (p.1.1, (p.1.2.1, p.1.2.2.1)) p.2.1 (fun (y : Int) => k (.int .i64 y) []))
 (none)
def wix (args : List AV) (st : St) (k : K1) : Option Res :=
 vam [.lst tWrite, .int .i64] [] args st (fun p q => v0x p.1 p.2.1 (fun (y : Int) => k (.int .i64 y) []))
 (none)
def wkh (args : List AV) (st : St) (k : K1) : Option Res :=
 vam [.agg [.int .i64, .int .i64, .int .i64, .int .i64, .lst tRange, .lst tWrite, .bool, .str], .int .i64] [] args st (fun p q => vwh (p.1.1, (p.1.2.1, (p.1.2.2.1, (p.1.2.2.2.1, (p.1.2.2.2.2.1, (p.1.2.2.2.2.2.1, (p.1.2.2.2.2.2.2.1, p.1.2.2.2.2.2.2.2.1))))))) p.2.1 (fun (y : Int) => k (.int .i64 y) []))
 (none)
def wg8 (args : List AV) (st : St) (k : K1) : Option Res :=
 vam [.lst tTxn, .int .i64] [] args st (fun p q => vti p.1 p.2.1 (fun (y : Int) => k (.int .i64 y) []))
 (none)
def wjp (args : List AV) (st : St) (k : K1) : Option Res :=
 vam [.agg [.lst tVersion, .lst tTxn, .lst tTxn, .int .i64, .int .i64], .int .i64] [] args st (fun p q => v0p (p.1.1, (p.1.2.1, (p.1.2.2.1, (p.1.2.2.2.1, p.1.2.2.2.2.1)))) p.2.1 (fun (y : Int) => k (.int .i64 y) []))
 (none)
def wkg (args : List AV) (st : St) (k : K1) : Option Res :=
 vam [.agg [.lst tVersion, .lst tTxn, .lst tTxn, .int .i64, .int .i64, .lst tTxn], .int .i64] [] args st (fun p q => vun ((p.1.1, (p.1.2.1, (p.1.2.2.1, (p.1.2.2.2.1, p.1.2.2.2.2.1)))), p.1.2.2.2.2.2.1) p.2.1 (fun (y : Int) => k (.int .i64 y) []))
 (none)
def whs (args : List AV) (st : St) (k : K1) : Option Res :=
 vam [.agg [.str, .str, .bool, .int .i64]] [] args st (fun p q => vwe (p.1.1, (p.1.2.1, (p.1.2.2.1, p.1.2.2.2.1))) (fun (y : q39T) => k (.agg [.str y.1, .str y.2.1, .bool y.2.2.1, .int .i64 y.2.2.2]) []))
 (none)
def wmf (args : List AV) (st : St) (k : K1) : Option Res :=
 vam [.lst tVersion] [] args st (fun p q => vws p.1 (fun (y : (List vac)) => k (.own 0) [.arr tVersion y]))
 (none)
def wi2 (args : List AV) (st : St) (k : K1) : Option Res :=
 vam [.agg [.str, .str]] [] args st (fun p q => vxd (p.1.1, p.1.2.1) (fun (y : (ByteArray × ByteArray)) => k (.agg [.str y.1, .str y.2]) []))
 (none)
def wmn (args : List AV) (st : St) (k : K1) : Option Res :=
 vam [.lst tRange] [] args st (fun p q => vwz p.1 (fun (y : (List van)) => k (.own 0) [.arr tRange y]))
 (none)
def wio (args : List AV) (st : St) (k : K1) : Option Res :=
 vam [.agg [.str, .str, .bool]] [] args st (fun p q => vu0 (p.1.1, (p.1.2.1, p.1.2.2.1)) (fun (y : (ByteArray × ByteArray × Bool)) => k (.agg [.str y.1, .str y.2.1, .bool y.2.2]) []))
 (none)
def wj5 (args : List AV) (st : St) (k : K1) : Option Res :=
 vam [.lst tWrite] [] args st (fun p q => vvl p.1 (fun (y : (List vaj)) => k (.own 0) [.arr tWrite y]))
 (none)
def wh3 (args : List AV) (st : St) (k : K1) : Option Res :=
 vam [.agg [.int .i64, .int .i64, .int .i64, .int .i64, .lst tRange, .lst tWrite, .bool, .str]] [] args st (fun p q => vt1 (p.1.1, (p.1.2.1, (p.1.2.2.1, (p.1.2.2.2.1, (p.1.2.2.2.2.1, (p.1.2.2.2.2.2.1, (p.1.2.2.2.2.2.2.1, p.1.2.2.2.2.2.2.2.1))))))) (fun (y : q47T) => k (.agg [.int .i64 y.1, .int .i64 y.2.1, .int .i64 y.2.2.1, .int .i64 y.2.2.2.1, .own 0, .own 1, .bool y.2.2.2.2.1, .str y.2.2.2.2.2.1]) [.arr tRange y.2.2.2.2.2.2.1, .arr tWrite y.2.2.2.2.2.2.2]))
 (none)
def wii (args : List AV) (st : St) (k : K1) : Option Res :=
 vam [.lst tTxn] [] args st (fun p q => vq0 p.1 (fun (y : (List dTxn)) => k (.own 0) [.dep tTxn y 0]))
 (none)
def wfu (args : List AV) (st : St) (k : K1) : Option Res :=
 vam [.agg [.lst tVersion, .lst tTxn, .lst tTxn, .int .i64, .int .i64]] [] args st (fun p q => vw1 (p.1.1, (p.1.2.1, (p.1.2.2.1, (p.1.2.2.2.1, p.1.2.2.2.2.1)))) (fun (y : q45T) => k (.agg [.own 0, .own 1, .own 2, .int .i64 y.1, .int .i64 y.2.1]) [.arr tVersion y.2.2.1, .dep tTxn y.2.2.2.1 0, .dep tTxn y.2.2.2.2 0]))
 (none)
def wj3 (args : List AV) (st : St) (k : K1) : Option Res :=
 vam [.agg [.lst tVersion, .lst tTxn, .lst tTxn, .int .i64, .int .i64, .lst tTxn]] [] args st (fun p q => via ((p.1.1, (p.1.2.1, (p.1.2.2.1, (p.1.2.2.2.1, p.1.2.2.2.2.1)))), p.1.2.2.2.2.2.1) (fun (y : q42T) => k (.agg [.own 0, .own 1, .own 2, .int .i64 y.1, .int .i64 y.2.1, .own 3]) [.arr tVersion y.2.2.1, .dep tTxn y.2.2.2.1 0, .dep tTxn y.2.2.2.2.1 0, .dep tTxn y.2.2.2.2.2 0]))
 (none)
def wkk (args : List AV) (st : St) (k : K1) : Option Res :=
 vam [.agg [.int .i64, .int .i64, .int .i64, .int .i64, .lst tRange, .lst tWrite, .bool, .str]] [] args st (fun p q => vwc (p.1.1, (p.1.2.1, (p.1.2.2.1, (p.1.2.2.2.1, (p.1.2.2.2.2.1, (p.1.2.2.2.2.2.1, (p.1.2.2.2.2.2.2.1, p.1.2.2.2.2.2.2.2.1))))))) (fun (y : q47T) => k (.agg [.int .i64 y.1, .int .i64 y.2.1, .int .i64 y.2.2.1, .int .i64 y.2.2.2.1, .own 0, .own 1, .bool y.2.2.2.2.1, .str y.2.2.2.2.2.1]) [.arr tRange y.2.2.2.2.2.2.1, .arr tWrite y.2.2.2.2.2.2.2]))
 (none)
def whw (args : List AV) (st : St) (k : K1) : Option Res :=
 vam [.lst tTxn] [] args st (fun p q => vqt p.1 (fun (y : (List dTxn)) => k (.own 0) [.arr tTxn y]))
 (none)
def why (args : List AV) (st : St) (k : K1) : Option Res :=
 vam [.agg [.lst tVersion, .lst tTxn, .lst tTxn, .int .i64, .int .i64]] [] args st (fun p q => v4s (p.1.1, (p.1.2.1, (p.1.2.2.1, (p.1.2.2.2.1, p.1.2.2.2.2.1)))) (fun (y : q45T) => k (.agg [.own 0, .own 1, .own 2, .int .i64 y.1, .int .i64 y.2.1]) [.arr tVersion y.2.2.1, .arr tTxn y.2.2.2.1, .arr tTxn y.2.2.2.2]))
 (none)
def wjl (args : List AV) (st : St) (k : K1) : Option Res :=
 vam [.agg [.lst tVersion, .lst tTxn, .lst tTxn, .int .i64, .int .i64, .lst tTxn]] [] args st (fun p q => v0w ((p.1.1, (p.1.2.1, (p.1.2.2.1, (p.1.2.2.2.1, p.1.2.2.2.2.1)))), p.1.2.2.2.2.2.1) (fun (y : q42T) => k (.agg [.own 0, .own 1, .own 2, .int .i64 y.1, .int .i64 y.2.1, .own 3]) [.arr tVersion y.2.2.1, .arr tTxn y.2.2.2.1, .arr tTxn y.2.2.2.2.1, .arr tTxn y.2.2.2.2.2]))
 (none)
def wge (args : List AV) (st : St) (k : K1) : Option Res :=
 vam [.int .i64, .int .i64, .int .i64] [] args st (fun p q => vdg p.1 p.2.1 p.2.2.1 (fun (y : Bool) => k (.bool y) []))
 (none)
def wji (args : List AV) (st : St) (k : K1) : Option Res :=
 vam [.str] [] args st (fun p q => vi1 p.1 (fun (y : Bool) => k (.bool y) []))
 (none)
def wl6 (args : List AV) (st : St) (k : K1) : Option Res :=
 vam [.lst tVersion] [] args st (fun p q => vty p.1 (fun (y : Bool) => k (.bool y) []))
 (none)
def wju (args : List AV) (st : St) (k : K1) : Option Res :=
 vam [.agg [.str, .str, .bool]] [] args st (fun p q => vw2 (p.1.1, (p.1.2.1, p.1.2.2.1)) (fun (y : Bool) => k (.bool y) []))
 (none)
def wgh (args : List AV) (st : St) (k : K1) : Option Res :=
 vam [.lst tWrite] [] args st (fun p q => vtx p.1 (fun (y : Bool) => k (.bool y) []))
 (none)
def wgw (args : List AV) (st : St) (k : K1) : Option Res :=
 vam [.agg [.str, .str]] [] args st (fun p q => vwj (p.1.1, p.1.2.1) (fun (y : Bool) => k (.bool y) []))
 (none)
def whm (args : List AV) (st : St) (k : K1) : Option Res :=
 vam [.agg [.int .i64, .int .i64, .int .i64, .int .i64, .lst tRange, .lst tWrite, .bool, .str]] [] args st (fun p q => vlh (p.1.1, (p.1.2.1, (p.1.2.2.1, (p.1.2.2.2.1, (p.1.2.2.2.2.1, (p.1.2.2.2.2.2.1, (p.1.2.2.2.2.2.2.1, p.1.2.2.2.2.2.2.2.1))))))) (fun (y : Bool) => k (.bool y) []))
 (none)
def wh2 (args : List AV) (st : St) (k : K1) : Option Res :=
 vam [.agg [.lst tVersion, .lst tTxn, .lst tTxn, .int .i64, .int .i64]] [] args st (fun p q => vtn (p.1.1, (p.1.2.1, (p.1.2.2.1, (p.1.2.2.2.1, p.1.2.2.2.2.1)))) (fun (y : Bool) => k (.bool y) []))
 (none)
def wkj (args : List AV) (st : St) (k : K1) : Option Res :=
 vam [.agg [.lst tVersion, .lst tTxn, .lst tTxn, .int .i64, .int .i64, .lst tTxn]] [] args st (fun p q => vwx ((p.1.1, (p.1.2.1, (p.1.2.2.1, (p.1.2.2.2.1, p.1.2.2.2.2.1)))), p.1.2.2.2.2.2.1) (fun (y : Bool) => k (.bool y) []))
 (none)
def whp (args : List AV) (st : St) (k : K1) : Option Res :=
 vam [.agg [.lst tVersion, .lst tTxn, .lst tTxn, .int .i64, .int .i64, .lst tTxn]] [] args st (fun p q => vv2 ((p.1.1, (p.1.2.1, (p.1.2.2.1, (p.1.2.2.2.1, p.1.2.2.2.2.1)))), p.1.2.2.2.2.2.1) (fun (y : q46T) => k (.tup [.agg [.own 0, .own 1, .own 2, .int .i64 y.1, .int .i64 y.2.1, .own 3], .int .i64 y.2.2.1, .int .i64 y.2.2.2.1]) [.arr tVersion y.2.2.2.2.1, .arr tTxn y.2.2.2.2.2.1, .arr tTxn y.2.2.2.2.2.2.1, .arr tTxn y.2.2.2.2.2.2.2]))
 (none)
def wms (args : List AV) (st : St) (k : K1) : Option Res :=
 vam [.agg [.int .i64, .int .i64, .int .i64, .int .i64, .lst tRange, .lst tWrite, .bool, .str]] [] args st (fun p q => vu8 (p.1.1, (p.1.2.1, (p.1.2.2.1, (p.1.2.2.2.1, (p.1.2.2.2.2.1, (p.1.2.2.2.2.2.1, (p.1.2.2.2.2.2.2.1, p.1.2.2.2.2.2.2.2.1))))))) (fun (y : q47T) => k (.agg [.int .i64 y.1, .int .i64 y.2.1, .int .i64 y.2.2.1, .int .i64 y.2.2.2.1, .own 0, .own 1, .bool y.2.2.2.2.1, .str y.2.2.2.2.2.1]) [.arr tRange y.2.2.2.2.2.2.1, .arr tWrite y.2.2.2.2.2.2.2]))
 (none)
def wi6 (args : List AV) (st : St) (k : K1) : Option Res :=
 vam [.lst tTxn] [] args st (fun p q => vq8 p.1 (fun (y : (List dTxn)) => k (.own 0) [.dep tTxn y 0]))
 (none)
def wi3 (args : List AV) (st : St) (k : K1) : Option Res :=
 vam [.agg [.lst tVersion, .lst tTxn, .lst tTxn, .int .i64, .int .i64]] [] args st (fun p q => v4r (p.1.1, (p.1.2.1, (p.1.2.2.1, (p.1.2.2.2.1, p.1.2.2.2.2.1)))) (fun (y : q45T) => k (.agg [.own 0, .own 1, .own 2, .int .i64 y.1, .int .i64 y.2.1]) [.arr tVersion y.2.2.1, .dep tTxn y.2.2.2.1 0, .dep tTxn y.2.2.2.2 0]))
 (none)
def wkb (args : List AV) (st : St) (k : K1) : Option Res :=
 vam [.agg [.lst tVersion, .lst tTxn, .lst tTxn, .int .i64, .int .i64, .lst tTxn]] [] args st (fun p q => vzd ((p.1.1, (p.1.2.1, (p.1.2.2.1, (p.1.2.2.2.1, p.1.2.2.2.2.1)))), p.1.2.2.2.2.2.1) (fun (y : q42T) => k (.agg [.own 0, .own 1, .own 2, .int .i64 y.1, .int .i64 y.2.1, .own 3]) [.arr tVersion y.2.2.1, .dep tTxn y.2.2.2.1 0, .dep tTxn y.2.2.2.2.1 0, .dep tTxn y.2.2.2.2.2 0]))
 (none)
def wis (args : List AV) (st : St) (k : K1) : Option Res :=
 vam [.int .i64, .int .i64, .int .i64] [] args st (fun p q => vde p.1 p.2.1 p.2.2.1 (fun (y : Bool) => k (.bool y) []))
 (none)
def whd (args : List AV) (st : St) (k : K1) : Option Res :=
 vam [.str] [] args st (fun p q => vi2 p.1 (fun (y : Bool) => k (.bool y) []))
 (none)
def wfw (args : List AV) (st : St) (k : K1) : Option Res :=
 vam [.str] [] args st (fun p q => vzr p.1 (fun (y : Bool) => k (.bool y) []))
 (none)
def wky (args : List AV) (st : St) (k : K1) : Option Res :=
 vam [.str, .str] [] args st (fun p q => vz9 p.1 p.2.1 (fun (y : Int) => k (.int .i64 y) []))
 (none)
def wfv (args : List AV) (st : St) (k : K1) : Option Res :=
 vam [.int .i64] [] args st (fun p q => v0a p.1 (fun (y : Bool) => k (.bool y) []))
 (none)
def wmd (args : List AV) (st : St) (k : K1) : Option Res :=
 vam [.int .i64, .int .i64] [] args st (fun p q => v0g p.1 p.2.1 (fun (y : Int) => k (.int .i64 y) []))
 (none)
def wiv (args : List AV) (st : St) (k : K1) : Option Res :=
 vam [.agg [.str, .str, .bool, .int .i64], .agg [.str, .str, .bool, .int .i64]] [] args st (fun p q => vqu (p.1.1, (p.1.2.1, (p.1.2.2.1, p.1.2.2.2.1))) (p.2.1.1, (p.2.1.2.1, (p.2.1.2.2.1, p.2.1.2.2.2.1))) (fun (y : Int) => k (.int .i64 y) []))
 (none)
def wkq (args : List AV) (st : St) (k : K1) : Option Res :=
 vam [.lst tVersion] [] args st (fun p q => vtf p.1 (fun (y : Bool) => k (.bool y) []))
 (none)
def wmh (args : List AV) (st : St) (k : K1) : Option Res :=
 vam [.agg [.str, .str]] [] args st (fun p q => vw9 (p.1.1, p.1.2.1) (fun (y : Bool) => k (.bool y) []))
 (none)
def wks (args : List AV) (st : St) (k : K1) : Option Res :=
 vam [.agg [.str, .str, .bool]] [] args st (fun p q => vwo (p.1.1, (p.1.2.1, p.1.2.2.1)) (fun (y : Bool) => k (.bool y) []))
 (none)
def wid (args : List AV) (st : St) (k : K1) : Option Res :=
 vam [.lst tWrite] [] args st (fun p q => vtt p.1 (fun (y : Bool) => k (.bool y) []))
 (none)
def whg (args : List AV) (st : St) (k : K1) : Option Res :=
 vam [.agg [.int .i64, .int .i64, .int .i64, .int .i64, .lst tRange, .lst tWrite, .bool, .str]] [] args st (fun p q => vlf (p.1.1, (p.1.2.1, (p.1.2.2.1, (p.1.2.2.2.1, (p.1.2.2.2.2.1, (p.1.2.2.2.2.2.1, (p.1.2.2.2.2.2.2.1, p.1.2.2.2.2.2.2.2.1))))))) (fun (y : Bool) => k (.bool y) []))
 (none)
def wlb (args : List AV) (st : St) (k : K1) : Option Res :=
 vam [.agg [.int .i64, .int .i64, .int .i64, .int .i64, .lst tRange, .lst tWrite, .bool, .str]] [] args st (fun p q => vvu (p.1.1, (p.1.2.1, (p.1.2.2.1, (p.1.2.2.2.1, (p.1.2.2.2.2.1, (p.1.2.2.2.2.2.1, (p.1.2.2.2.2.2.2.1, p.1.2.2.2.2.2.2.2.1))))))) (fun (y : Bool) => k (.bool y) []))
 (none)
def wfz (args : List AV) (st : St) (k : K1) : Option Res :=
 vam [.agg [.int .i64, .int .i64, .int .i64, .int .i64, .lst tRange, .lst tWrite, .bool, .str]] [] args st (fun p q => vwn (p.1.1, (p.1.2.1, (p.1.2.2.1, (p.1.2.2.2.1, (p.1.2.2.2.2.1, (p.1.2.2.2.2.2.1, (p.1.2.2.2.2.2.2.1, p.1.2.2.2.2.2.2.2.1))))))) (fun (y : Bool) => k (.bool y) []))
 (none)
def vfa (args : List AV) (st : St) (k : K1) : Option Res :=
 vam [.nilS, .int .i64] [] args st (fun p q => vu2 p.2.1 (Sum.elim (fun (y : (List dTxn)) => k (.own 0) [.arr tTxn y]) (fun (y : (List dTxn)) => k (.own 0) [.dep tTxn y 0])))
 (none)
def wmr (args : List AV) (st : St) (k : K1) : Option Res :=
 vam [.lst (.slice tTxn)] [] args st (fun p q => vli p.1 (Sum.elim (fun (y : (List dTxn)) => k (.own 0) [.arr tTxn y]) (fun (y : (List dTxn)) => k (.own 0) [.dep tTxn y 0])))
 (none)
def wha (args : List AV) (st : St) (k : K1) : Option Res :=
 vam [.agg [.int .i64, .int .i64, .int .i64, .int .i64, .lst tRange, .lst tWrite, .bool, .str], .bp 0 0] [.box [.int .i64, .int .i64, .int .i64, .int .i64, .lst tRange, .lst tWrite, .bool, .str]] args st (fun p q => vux (p.1.1, (p.1.2.1, (p.1.2.2.1, (p.1.2.2.2.1, (p.1.2.2.2.2.1, (p.1.2.2.2.2.2.1, (p.1.2.2.2.2.2.2.1, p.1.2.2.2.2.2.2.2.1))))))) q.1.1 q.1.2.1 q.1.2.2.1 q.1.2.2.2.1 q.1.2.2.2.2.1 q.1.2.2.2.2.2.1 q.1.2.2.2.2.2.2.1 q.1.2.2.2.2.2.2.2.1 (fun (y : q36T) => k (.bool y.1) [.box [.int .i64 y.2.1, .int .i64 y.2.2.1, .int .i64 y.2.2.2.1, .int .i64 y.2.2.2.2.1, .lst tRange y.2.2.2.2.2.1, .lst tWrite y.2.2.2.2.2.2.1, .bool y.2.2.2.2.2.2.2.1, .str y.2.2.2.2.2.2.2.2]]))
 (none)
def vda (args : List AV) (st : St) (k : K1) : Option Res :=
 vam [.lst tTxn, .fn 227 [.bp 0 0]] [.box [.int .i64, .int .i64, .int .i64, .int .i64, .lst tRange, .lst tWrite, .bool, .str]] args st (fun p q => vz1 p.1 q.1.1 q.1.2.1 q.1.2.2.1 q.1.2.2.2.1 q.1.2.2.2.2.1 q.1.2.2.2.2.2.1 q.1.2.2.2.2.2.2.1 q.1.2.2.2.2.2.2.2.1 (fun (y : q48T) => k (.int .i64 y.1) [.box [.int .i64 y.2.1, .int .i64 y.2.2.1, .int .i64 y.2.2.2.1, .int .i64 y.2.2.2.2.1, .lst tRange y.2.2.2.2.2.1, .lst tWrite y.2.2.2.2.2.2.1, .bool y.2.2.2.2.2.2.2.1, .str y.2.2.2.2.2.2.2.2]]))
 (none)
def vco (args : List AV) (st : St) (k : K1) : Option Res :=
 vam [.lst tTxn, .fn 227 [.bp 0 0]] [.box [.int .i64, .int .i64, .int .i64, .int .i64, .lst tRange, .lst tWrite, .bool, .str]] args st (fun p q => v5l p.1 q.1.1 q.1.2.1 q.1.2.2.1 q.1.2.2.2.1 q.1.2.2.2.2.1 q.1.2.2.2.2.2.1 q.1.2.2.2.2.2.2.1 q.1.2.2.2.2.2.2.2.1 (fun (y : q36T) => k (.bool y.1) [.box [.int .i64 y.2.1, .int .i64 y.2.2.1, .int .i64 y.2.2.2.1, .int .i64 y.2.2.2.2.1, .lst tRange y.2.2.2.2.2.1, .lst tWrite y.2.2.2.2.2.2.1, .bool y.2.2.2.2.2.2.2.1, .str y.2.2.2.2.2.2.2.2]]))
 (none)
def vpl (args : List AV) (st : St) (k : K1) : Option Res :=
 vam [.lst tTxn, .fn 227 [.bp 0 0]] [.box [.int .i64, .int .i64, .int .i64, .int .i64, .lst tRange, .lst tWrite, .bool, .str]] args st (fun p q => vu7 p.1 q.1.1 q.1.2.1 q.1.2.2.1 q.1.2.2.2.1 q.1.2.2.2.2.1 q.1.2.2.2.2.2.1 q.1.2.2.2.2.2.2.1 q.1.2.2.2.2.2.2.2.1 (fun (y : q36T) => k (.bool y.1) [.box [.int .i64 y.2.1, .int .i64 y.2.2.1, .int .i64 y.2.2.2.1, .int .i64 y.2.2.2.2.1, .lst tRange y.2.2.2.2.2.1, .lst tWrite y.2.2.2.2.2.2.1, .bool y.2.2.2.2.2.2.2.1, .str y.2.2.2.2.2.2.2.2]]))
 (none)
def wf0 (args : List AV) (st : St) (k : K1) : Option Res :=
 vam [.lst tTxn, .int .i64] [] args st (fun p q => vh6 p.1 p.2.1 (fun (y : Bool) => k (.bool y) []))
 (none)
def whi (args : List AV) (st : St) (k : K1) : Option Res :=
 vam [.agg [.lst tVersion, .lst tTxn, .lst tTxn, .int .i64, .int .i64]] [] args st (fun p q => vte (p.1.1, (p.1.2.1, (p.1.2.2.1, (p.1.2.2.2.1, p.1.2.2.2.2.1)))) (fun (y : Bool) => k (.bool y) []))
 (none)
def wkv (args : List AV) (st : St) (k : K1) : Option Res :=
 vam [.agg [.lst tVersion, .lst tTxn, .lst tTxn, .int .i64, .int .i64, .lst tTxn]] [] args st (fun p q => vuo ((p.1.1, (p.1.2.1, (p.1.2.2.1, (p.1.2.2.2.1, p.1.2.2.2.2.1)))), p.1.2.2.2.2.2.1) (fun (y : Bool) => k (.bool y) []))
 (none)
end
end Go.VE
